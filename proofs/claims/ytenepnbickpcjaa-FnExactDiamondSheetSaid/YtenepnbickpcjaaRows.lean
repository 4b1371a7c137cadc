/-
  No cell of these rows narrows 'for every input' (looked for: loops, veiled, ifaces, maps, wideKeys, modest, calm, conditions, laid).
  DERIVED. THE GIVEN ROWS OF THIS SEAT. 10 by the template 'for every input the law returns true; each argument reads behind the call as it read before'; 0 by the template 'total and deterministic' (their statements: YtenepnbickpcjaaTotals.lean).
  GIVEN WITH THE SEED: the statements are not yours to turn. If you find one false, say at which input.
  Laid BY PROGRAM, IN A SANDBOX (cutbox-rows.mjs): the forced cells as the released guide's own fill.sh prints them over the translation dfadfba3bf57856b… (all of the seat's roots in one cut). By AI agents, Wed Nov 11 2026. No macro, syntax, notation, axiom, sorry.
-/
import Derived.Test.YtenepnbickpcjaaChecked
import GoSem.Claim
import GoSem.ClaimJoined
import GoSem.ClaimMapViews
import Derived.JoinedTies
import Derived.KernelRfl
namespace Go.Proofs.Ytenepnbickpcjaa
/- THE CELL 'sum', in the pinned program and in every row, IS THE sha256 OF THE DUMP (.gsa) THAT YtenepnbickpcjaaProg.lean LOADS. Nothing in Lean hashes anything: it is a label: what it is worth is what the hold of that sum in a sandbox is worth. -/
noncomputable def Try.pinned : Pinned := { name := "ytenepnbickpcjaa", sum := "dfadfba3bf57856b5fb384d54bb8241a874c3b312be07c538a5c3d27035ab888", checked := Try.checked }
namespace Rows
def none {H : Type} : Left H := { results := [], args := [] }

/-- 'laws.FnExactLatticeAt': WHATEVER THE INPUT: true; the input reads as it did. -/
def fnExactLatticeAtSpec : ChangeSpec := { name := "fnExactLatticeAt", fn := fun _ => fun
  | [d1, d2, d3] => { results := [.lit (.bool true)], args := [d1, d2, d3] }
  | _ => none }
def fnExactLatticeAtRow : OpenClaim := { program := "ytenepnbickpcjaa", sum := "dfadfba3bf57856b5fb384d54bb8241a874c3b312be07c538a5c3d27035ab888", func := "loop.example/g01318/laws.FnExactLatticeAt", spec := "fnExactLatticeAt", apart := false }
def FnExactLatticeAtSaid : Prop := fnExactLatticeAtRow.holds Try.pinned (OpenSpec.ofChange fnExactLatticeAtSpec)

/-- ITS FALSE NEIGHBOUR: 'it returns false'. Refute it at one input. -/
def fnExactLatticeAtWrong : ChangeSpec := { name := "fnExactLatticeAt", fn := fun _ => fun
  | [d1, d2, d3] => { results := [.lit (.bool false)], args := [d1, d2, d3] }
  | _ => none }
def FnExactLatticeAtWrongFalsely : Prop := fnExactLatticeAtRow.holds Try.pinned (OpenSpec.ofChange fnExactLatticeAtWrong)

/-- 'laws.FnExactValidSheet': WHATEVER THE INPUT: true; the input reads as it did. -/
def fnExactValidSheetSpec : ChangeSpec := { name := "fnExactValidSheet", fn := fun _ => fun
  | [d] => { results := [.lit (.bool true)], args := [d] }
  | _ => none }
def fnExactValidSheetRow : OpenClaim := { program := "ytenepnbickpcjaa", sum := "dfadfba3bf57856b5fb384d54bb8241a874c3b312be07c538a5c3d27035ab888", func := "loop.example/g01318/laws.FnExactValidSheet", spec := "fnExactValidSheet", unfollowed := true, recurses := true, apart := false }
def FnExactValidSheetSaid : Prop := fnExactValidSheetRow.holds Try.pinned (OpenSpec.ofChange fnExactValidSheetSpec)

/-- ITS FALSE NEIGHBOUR: 'it returns false'. Refute it at one input. -/
def fnExactValidSheetWrong : ChangeSpec := { name := "fnExactValidSheet", fn := fun _ => fun
  | [d] => { results := [.lit (.bool false)], args := [d] }
  | _ => none }
def FnExactValidSheetWrongFalsely : Prop := fnExactValidSheetRow.holds Try.pinned (OpenSpec.ofChange fnExactValidSheetWrong)

/-- 'laws.FnExactSameSheet': WHATEVER THE INPUT: true; the input reads as it did. -/
def fnExactSameSheetSpec : ChangeSpec := { name := "fnExactSameSheet", fn := fun _ => fun
  | [d1, d2] => { results := [.lit (.bool true)], args := [d1, d2] }
  | _ => none }
def fnExactSameSheetRow : OpenClaim := { program := "ytenepnbickpcjaa", sum := "dfadfba3bf57856b5fb384d54bb8241a874c3b312be07c538a5c3d27035ab888", func := "loop.example/g01318/laws.FnExactSameSheet", spec := "fnExactSameSheet", inPlace := ["math.Float32bits", "math.Float64bits"], unfollowed := true, recurses := true, apart := false }
def FnExactSameSheetSaid : Prop := fnExactSameSheetRow.holds Try.pinned (OpenSpec.ofChange fnExactSameSheetSpec)

/-- ITS FALSE NEIGHBOUR: 'it returns false'. Refute it at one input. -/
def fnExactSameSheetWrong : ChangeSpec := { name := "fnExactSameSheet", fn := fun _ => fun
  | [d1, d2] => { results := [.lit (.bool false)], args := [d1, d2] }
  | _ => none }
def FnExactSameSheetWrongFalsely : Prop := fnExactSameSheetRow.holds Try.pinned (OpenSpec.ofChange fnExactSameSheetWrong)

/-- 'laws.FnExactMassOfSheet': WHATEVER THE INPUT: true; the input reads as it did. -/
def fnExactMassOfSheetSpec : ChangeSpec := { name := "fnExactMassOfSheet", fn := fun _ => fun
  | [d] => { results := [.lit (.bool true)], args := [d] }
  | _ => none }
def fnExactMassOfSheetRow : OpenClaim := { program := "ytenepnbickpcjaa", sum := "dfadfba3bf57856b5fb384d54bb8241a874c3b312be07c538a5c3d27035ab888", func := "loop.example/g01318/laws.FnExactMassOfSheet", spec := "fnExactMassOfSheet", unfollowed := true, recurses := true, apart := false }
def FnExactMassOfSheetSaid : Prop := fnExactMassOfSheetRow.holds Try.pinned (OpenSpec.ofChange fnExactMassOfSheetSpec)

/-- ITS FALSE NEIGHBOUR: 'it returns false'. Refute it at one input. -/
def fnExactMassOfSheetWrong : ChangeSpec := { name := "fnExactMassOfSheet", fn := fun _ => fun
  | [d] => { results := [.lit (.bool false)], args := [d] }
  | _ => none }
def FnExactMassOfSheetWrongFalsely : Prop := fnExactMassOfSheetRow.holds Try.pinned (OpenSpec.ofChange fnExactMassOfSheetWrong)

/-- 'laws.FnExactRangeOfSheet': WHATEVER THE INPUT: true; the input reads as it did. -/
def fnExactRangeOfSheetSpec : ChangeSpec := { name := "fnExactRangeOfSheet", fn := fun _ => fun
  | [d] => { results := [.lit (.bool true)], args := [d] }
  | _ => none }
def fnExactRangeOfSheetRow : OpenClaim := { program := "ytenepnbickpcjaa", sum := "dfadfba3bf57856b5fb384d54bb8241a874c3b312be07c538a5c3d27035ab888", func := "loop.example/g01318/laws.FnExactRangeOfSheet", spec := "fnExactRangeOfSheet", unfollowed := true, recurses := true, apart := false }
def FnExactRangeOfSheetSaid : Prop := fnExactRangeOfSheetRow.holds Try.pinned (OpenSpec.ofChange fnExactRangeOfSheetSpec)

/-- ITS FALSE NEIGHBOUR: 'it returns false'. Refute it at one input. -/
def fnExactRangeOfSheetWrong : ChangeSpec := { name := "fnExactRangeOfSheet", fn := fun _ => fun
  | [d] => { results := [.lit (.bool false)], args := [d] }
  | _ => none }
def FnExactRangeOfSheetWrongFalsely : Prop := fnExactRangeOfSheetRow.holds Try.pinned (OpenSpec.ofChange fnExactRangeOfSheetWrong)

/-- 'laws.FnExactOctaveAt': WHATEVER THE INPUT: true; the input reads as it did. -/
def fnExactOctaveAtSpec : ChangeSpec := { name := "fnExactOctaveAt", fn := fun _ => fun
  | [d1, d2, d3] => { results := [.lit (.bool true)], args := [d1, d2, d3] }
  | _ => none }
def fnExactOctaveAtRow : OpenClaim := { program := "ytenepnbickpcjaa", sum := "dfadfba3bf57856b5fb384d54bb8241a874c3b312be07c538a5c3d27035ab888", func := "loop.example/g01318/laws.FnExactOctaveAt", spec := "fnExactOctaveAt", inPlace := ["math.archFloor", "math.Float64bits", "math.Float64frombits", "math.archTrunc"], unfollowed := true, recurses := true, apart := false }
def FnExactOctaveAtSaid : Prop := fnExactOctaveAtRow.holds Try.pinned (OpenSpec.ofChange fnExactOctaveAtSpec)

/-- ITS FALSE NEIGHBOUR: 'it returns false'. Refute it at one input. -/
def fnExactOctaveAtWrong : ChangeSpec := { name := "fnExactOctaveAt", fn := fun _ => fun
  | [d1, d2, d3] => { results := [.lit (.bool false)], args := [d1, d2, d3] }
  | _ => none }
def FnExactOctaveAtWrongFalsely : Prop := fnExactOctaveAtRow.holds Try.pinned (OpenSpec.ofChange fnExactOctaveAtWrong)

/-- 'laws.FnExactWeighSheets': WHATEVER THE INPUT: true; the input reads as it did. -/
def fnExactWeighSheetsSpec : ChangeSpec := { name := "fnExactWeighSheets", fn := fun _ => fun
  | [d1, d2, d3, d4] => { results := [.lit (.bool true)], args := [d1, d2, d3, d4] }
  | _ => none }
def fnExactWeighSheetsRow : OpenClaim := { program := "ytenepnbickpcjaa", sum := "dfadfba3bf57856b5fb384d54bb8241a874c3b312be07c538a5c3d27035ab888", func := "loop.example/g01318/laws.FnExactWeighSheets", spec := "fnExactWeighSheets", unfollowed := true, recurses := true, apart := false }
def FnExactWeighSheetsSaid : Prop := fnExactWeighSheetsRow.holds Try.pinned (OpenSpec.ofChange fnExactWeighSheetsSpec)

/-- ITS FALSE NEIGHBOUR: 'it returns false'. Refute it at one input. -/
def fnExactWeighSheetsWrong : ChangeSpec := { name := "fnExactWeighSheets", fn := fun _ => fun
  | [d1, d2, d3, d4] => { results := [.lit (.bool false)], args := [d1, d2, d3, d4] }
  | _ => none }
def FnExactWeighSheetsWrongFalsely : Prop := fnExactWeighSheetsRow.holds Try.pinned (OpenSpec.ofChange fnExactWeighSheetsWrong)

/-- 'laws.FnExactFlatSheet': WHATEVER THE INPUT: true; the input reads as it did. -/
def fnExactFlatSheetSpec : ChangeSpec := { name := "fnExactFlatSheet", fn := fun _ => fun
  | [d1, d2, d3] => { results := [.lit (.bool true)], args := [d1, d2, d3] }
  | _ => none }
def fnExactFlatSheetRow : OpenClaim := { program := "ytenepnbickpcjaa", sum := "dfadfba3bf57856b5fb384d54bb8241a874c3b312be07c538a5c3d27035ab888", func := "loop.example/g01318/laws.FnExactFlatSheet", spec := "fnExactFlatSheet", unfollowed := true, recurses := true, apart := false }
def FnExactFlatSheetSaid : Prop := fnExactFlatSheetRow.holds Try.pinned (OpenSpec.ofChange fnExactFlatSheetSpec)

/-- ITS FALSE NEIGHBOUR: 'it returns false'. Refute it at one input. -/
def fnExactFlatSheetWrong : ChangeSpec := { name := "fnExactFlatSheet", fn := fun _ => fun
  | [d1, d2, d3] => { results := [.lit (.bool false)], args := [d1, d2, d3] }
  | _ => none }
def FnExactFlatSheetWrongFalsely : Prop := fnExactFlatSheetRow.holds Try.pinned (OpenSpec.ofChange fnExactFlatSheetWrong)

/-- 'laws.FnExactNormSheet': WHATEVER THE INPUT: true; the input reads as it did. -/
def fnExactNormSheetSpec : ChangeSpec := { name := "fnExactNormSheet", fn := fun _ => fun
  | [d] => { results := [.lit (.bool true)], args := [d] }
  | _ => none }
def fnExactNormSheetRow : OpenClaim := { program := "ytenepnbickpcjaa", sum := "dfadfba3bf57856b5fb384d54bb8241a874c3b312be07c538a5c3d27035ab888", func := "loop.example/g01318/laws.FnExactNormSheet", spec := "fnExactNormSheet", unfollowed := true, recurses := true, apart := false }
def FnExactNormSheetSaid : Prop := fnExactNormSheetRow.holds Try.pinned (OpenSpec.ofChange fnExactNormSheetSpec)

/-- ITS FALSE NEIGHBOUR: 'it returns false'. Refute it at one input. -/
def fnExactNormSheetWrong : ChangeSpec := { name := "fnExactNormSheet", fn := fun _ => fun
  | [d] => { results := [.lit (.bool false)], args := [d] }
  | _ => none }
def FnExactNormSheetWrongFalsely : Prop := fnExactNormSheetRow.holds Try.pinned (OpenSpec.ofChange fnExactNormSheetWrong)

/-- 'laws.FnExactDiamondSheet': WHATEVER THE INPUT: true; the input reads as it did. -/
def fnExactDiamondSheetSpec : ChangeSpec := { name := "fnExactDiamondSheet", fn := fun _ => fun
  | [d1, d2, d3, d4, d5] => { results := [.lit (.bool true)], args := [d1, d2, d3, d4, d5] }
  | _ => none }
def fnExactDiamondSheetRow : OpenClaim := { program := "ytenepnbickpcjaa", sum := "dfadfba3bf57856b5fb384d54bb8241a874c3b312be07c538a5c3d27035ab888", func := "loop.example/g01318/laws.FnExactDiamondSheet", spec := "fnExactDiamondSheet", unfollowed := true, recurses := true, apart := false }
def FnExactDiamondSheetSaid : Prop := fnExactDiamondSheetRow.holds Try.pinned (OpenSpec.ofChange fnExactDiamondSheetSpec)

/-- ITS FALSE NEIGHBOUR: 'it returns false'. Refute it at one input. -/
def fnExactDiamondSheetWrong : ChangeSpec := { name := "fnExactDiamondSheet", fn := fun _ => fun
  | [d1, d2, d3, d4, d5] => { results := [.lit (.bool false)], args := [d1, d2, d3, d4, d5] }
  | _ => none }
def FnExactDiamondSheetWrongFalsely : Prop := fnExactDiamondSheetRow.holds Try.pinned (OpenSpec.ofChange fnExactDiamondSheetWrong)

/- THE SECOND FORM. 'bulk': how many values and letters a reading holds, each counted each time it is reached (what is shared counts as often as it is met; a slice's spare places count too). A statement '..UptoSaid' is the law's where the arguments, and the package variables that the reading takes, are together of bulk at most 1048576: NARROWER than '..Said'. Prove '..Said' where nothing that the law and all that it calls make is longer than what came in: it says more and counts as full. Else prove '..UptoSaid'. A law counts once. -/
mutual
def uptoBulk {H : Type} : DataW H → Nat
  | .lit (.string bytes) => bytes.length + 1
  | .lit _ => 1
  | .nil => 1
  | .ptr d => uptoBulk d + 1
  | .slice elems spare => uptoBulkAll elems + uptoBulkAll spare + 1
  | .agg parts => uptoBulkAll parts + 1
  | .iface _ d => uptoBulk d + 1
  | .map entries => uptoBulkEntries entries + 1
  | .held _ => 1
def uptoBulkAll {H : Type} : List (DataW H) → Nat
  | [] => 0
  | d :: r => uptoBulk d + uptoBulkAll r
def uptoBulkEntries {H : Type} : List (Lit × DataW H) → Nat
  | [] => 0
  | x :: r => uptoBulkEntry x + uptoBulkEntries r
def uptoBulkEntry {H : Type} : Lit × DataW H → Nat
  | (.string bytes, d) => bytes.length + uptoBulk d + 1
  | (_, d) => uptoBulk d + 1
 end
def uptoSmall : (H : Type) → List (DataW H) → Bool := fun _ ds => decide (uptoBulkAll ds ≤ 1048576)
def OpenSpec.upto (s : _root_.Go.ChangeSpec) : _root_.Go.OpenSpec := { _root_.Go.OpenSpec.ofChange s with cond := some uptoSmall }

/-- 'laws.FnExactLatticeAt', WHERE WHAT IT READS IS OF BULK AT MOST 1048576: true; the input reads as it did. -/
def fnExactLatticeAtUptoRow : OpenClaim := { program := "ytenepnbickpcjaa", sum := "dfadfba3bf57856b5fb384d54bb8241a874c3b312be07c538a5c3d27035ab888", func := "loop.example/g01318/laws.FnExactLatticeAt", spec := "fnExactLatticeAt", apart := false, narrowed := true }
def FnExactLatticeAtUptoSaid : Prop := fnExactLatticeAtUptoRow.holds Try.pinned (OpenSpec.upto fnExactLatticeAtSpec)

/-- 'laws.FnExactValidSheet', WHERE WHAT IT READS IS OF BULK AT MOST 1048576: true; the input reads as it did. -/
def fnExactValidSheetUptoRow : OpenClaim := { program := "ytenepnbickpcjaa", sum := "dfadfba3bf57856b5fb384d54bb8241a874c3b312be07c538a5c3d27035ab888", func := "loop.example/g01318/laws.FnExactValidSheet", spec := "fnExactValidSheet", unfollowed := true, recurses := true, apart := false, narrowed := true }
def FnExactValidSheetUptoSaid : Prop := fnExactValidSheetUptoRow.holds Try.pinned (OpenSpec.upto fnExactValidSheetSpec)

/-- 'laws.FnExactSameSheet', WHERE WHAT IT READS IS OF BULK AT MOST 1048576: true; the input reads as it did. -/
def fnExactSameSheetUptoRow : OpenClaim := { program := "ytenepnbickpcjaa", sum := "dfadfba3bf57856b5fb384d54bb8241a874c3b312be07c538a5c3d27035ab888", func := "loop.example/g01318/laws.FnExactSameSheet", spec := "fnExactSameSheet", inPlace := ["math.Float32bits", "math.Float64bits"], unfollowed := true, recurses := true, apart := false, narrowed := true }
def FnExactSameSheetUptoSaid : Prop := fnExactSameSheetUptoRow.holds Try.pinned (OpenSpec.upto fnExactSameSheetSpec)

/-- 'laws.FnExactMassOfSheet', WHERE WHAT IT READS IS OF BULK AT MOST 1048576: true; the input reads as it did. -/
def fnExactMassOfSheetUptoRow : OpenClaim := { program := "ytenepnbickpcjaa", sum := "dfadfba3bf57856b5fb384d54bb8241a874c3b312be07c538a5c3d27035ab888", func := "loop.example/g01318/laws.FnExactMassOfSheet", spec := "fnExactMassOfSheet", unfollowed := true, recurses := true, apart := false, narrowed := true }
def FnExactMassOfSheetUptoSaid : Prop := fnExactMassOfSheetUptoRow.holds Try.pinned (OpenSpec.upto fnExactMassOfSheetSpec)

/-- 'laws.FnExactRangeOfSheet', WHERE WHAT IT READS IS OF BULK AT MOST 1048576: true; the input reads as it did. -/
def fnExactRangeOfSheetUptoRow : OpenClaim := { program := "ytenepnbickpcjaa", sum := "dfadfba3bf57856b5fb384d54bb8241a874c3b312be07c538a5c3d27035ab888", func := "loop.example/g01318/laws.FnExactRangeOfSheet", spec := "fnExactRangeOfSheet", unfollowed := true, recurses := true, apart := false, narrowed := true }
def FnExactRangeOfSheetUptoSaid : Prop := fnExactRangeOfSheetUptoRow.holds Try.pinned (OpenSpec.upto fnExactRangeOfSheetSpec)

/-- 'laws.FnExactOctaveAt', WHERE WHAT IT READS IS OF BULK AT MOST 1048576: true; the input reads as it did. -/
def fnExactOctaveAtUptoRow : OpenClaim := { program := "ytenepnbickpcjaa", sum := "dfadfba3bf57856b5fb384d54bb8241a874c3b312be07c538a5c3d27035ab888", func := "loop.example/g01318/laws.FnExactOctaveAt", spec := "fnExactOctaveAt", inPlace := ["math.archFloor", "math.Float64bits", "math.Float64frombits", "math.archTrunc"], unfollowed := true, recurses := true, apart := false, narrowed := true }
def FnExactOctaveAtUptoSaid : Prop := fnExactOctaveAtUptoRow.holds Try.pinned (OpenSpec.upto fnExactOctaveAtSpec)

/-- 'laws.FnExactWeighSheets', WHERE WHAT IT READS IS OF BULK AT MOST 1048576: true; the input reads as it did. -/
def fnExactWeighSheetsUptoRow : OpenClaim := { program := "ytenepnbickpcjaa", sum := "dfadfba3bf57856b5fb384d54bb8241a874c3b312be07c538a5c3d27035ab888", func := "loop.example/g01318/laws.FnExactWeighSheets", spec := "fnExactWeighSheets", unfollowed := true, recurses := true, apart := false, narrowed := true }
def FnExactWeighSheetsUptoSaid : Prop := fnExactWeighSheetsUptoRow.holds Try.pinned (OpenSpec.upto fnExactWeighSheetsSpec)

/-- 'laws.FnExactFlatSheet', WHERE WHAT IT READS IS OF BULK AT MOST 1048576: true; the input reads as it did. -/
def fnExactFlatSheetUptoRow : OpenClaim := { program := "ytenepnbickpcjaa", sum := "dfadfba3bf57856b5fb384d54bb8241a874c3b312be07c538a5c3d27035ab888", func := "loop.example/g01318/laws.FnExactFlatSheet", spec := "fnExactFlatSheet", unfollowed := true, recurses := true, apart := false, narrowed := true }
def FnExactFlatSheetUptoSaid : Prop := fnExactFlatSheetUptoRow.holds Try.pinned (OpenSpec.upto fnExactFlatSheetSpec)

/-- 'laws.FnExactNormSheet', WHERE WHAT IT READS IS OF BULK AT MOST 1048576: true; the input reads as it did. -/
def fnExactNormSheetUptoRow : OpenClaim := { program := "ytenepnbickpcjaa", sum := "dfadfba3bf57856b5fb384d54bb8241a874c3b312be07c538a5c3d27035ab888", func := "loop.example/g01318/laws.FnExactNormSheet", spec := "fnExactNormSheet", unfollowed := true, recurses := true, apart := false, narrowed := true }
def FnExactNormSheetUptoSaid : Prop := fnExactNormSheetUptoRow.holds Try.pinned (OpenSpec.upto fnExactNormSheetSpec)

/-- 'laws.FnExactDiamondSheet', WHERE WHAT IT READS IS OF BULK AT MOST 1048576: true; the input reads as it did. -/
def fnExactDiamondSheetUptoRow : OpenClaim := { program := "ytenepnbickpcjaa", sum := "dfadfba3bf57856b5fb384d54bb8241a874c3b312be07c538a5c3d27035ab888", func := "loop.example/g01318/laws.FnExactDiamondSheet", spec := "fnExactDiamondSheet", unfollowed := true, recurses := true, apart := false, narrowed := true }
def FnExactDiamondSheetUptoSaid : Prop := fnExactDiamondSheetUptoRow.holds Try.pinned (OpenSpec.upto fnExactDiamondSheetSpec)

end Rows
end Go.Proofs.Ytenepnbickpcjaa
