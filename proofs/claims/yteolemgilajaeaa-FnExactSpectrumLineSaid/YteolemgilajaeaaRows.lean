/-
  No cell of these rows narrows 'for every input' (looked for: loops, veiled, ifaces, maps, wideKeys, modest, calm, conditions, laid).
  DERIVED. THE GIVEN ROWS OF THIS SEAT. 3 by the template 'for every input the law returns true; each argument reads behind the call as it read before'; 0 by the template 'total and deterministic' (their statements: YteolemgilajaeaaTotals.lean).
  GIVEN WITH THE SEED: the statements are not yours to turn. If you find one false, say at which input.
  Laid BY PROGRAM, IN A SANDBOX (cutbox-rows.mjs): the forced cells as the released guide's own fill.sh prints them over the translation b6e3cf734024ba14… (all of the seat's roots in one cut). By AI agents, Wed Nov 11 2026. No macro, syntax, notation, axiom, sorry.
-/
import Derived.Test.YteolemgilajaeaaChecked
import GoSem.Claim
import GoSem.ClaimJoined
import GoSem.ClaimMapViews
import Derived.JoinedTies
import Derived.KernelRfl
namespace Go.Proofs.Yteolemgilajaeaa
/- THE CELL 'sum', in the pinned program and in every row, IS THE sha256 OF THE DUMP (.gsa) THAT YteolemgilajaeaaProg.lean LOADS. Nothing in Lean hashes anything: it is a label: what it is worth is what the hold of that sum in a sandbox is worth. -/
noncomputable def Try.pinned : Pinned := { name := "yteolemgilajaeaa", sum := "b6e3cf734024ba1445c2192f096cf5a9f80ffc20d7afe4dcc0573c5a04cbb5e6", checked := Try.checked }
namespace Rows
def none {H : Type} : Left H := { results := [], args := [] }

/-- 'laws.FnExactTurtleTwigs': WHATEVER THE INPUT: true; the input reads as it did. -/
def fnExactTurtleTwigsSpec : ChangeSpec := { name := "fnExactTurtleTwigs", fn := fun _ => fun
  | [d1, d2, d3] => { results := [.lit (.bool true)], args := [d1, d2, d3] }
  | _ => none }
def fnExactTurtleTwigsRow : OpenClaim := { program := "yteolemgilajaeaa", sum := "b6e3cf734024ba1445c2192f096cf5a9f80ffc20d7afe4dcc0573c5a04cbb5e6", func := "loop.example/g01318/laws.FnExactTurtleTwigs", spec := "fnExactTurtleTwigs", inPlace := ["math.Float32frombits", "math.Float64frombits", "internal/bytealg.IndexByteString", "math.Float64bits"], unfollowed := true, recurses := true, apart := false }
def FnExactTurtleTwigsSaid : Prop := fnExactTurtleTwigsRow.holds Try.pinned (OpenSpec.ofChange fnExactTurtleTwigsSpec)

/-- ITS FALSE NEIGHBOUR: 'it returns false'. Refute it at one input. -/
def fnExactTurtleTwigsWrong : ChangeSpec := { name := "fnExactTurtleTwigs", fn := fun _ => fun
  | [d1, d2, d3] => { results := [.lit (.bool false)], args := [d1, d2, d3] }
  | _ => none }
def FnExactTurtleTwigsWrongFalsely : Prop := fnExactTurtleTwigsRow.holds Try.pinned (OpenSpec.ofChange fnExactTurtleTwigsWrong)

/-- 'laws.FnExactTurtleLine': WHATEVER THE INPUT: true; the input reads as it did. -/
def fnExactTurtleLineSpec : ChangeSpec := { name := "fnExactTurtleLine", fn := fun _ => fun
  | [d1, d2, d3] => { results := [.lit (.bool true)], args := [d1, d2, d3] }
  | _ => none }
def fnExactTurtleLineRow : OpenClaim := { program := "yteolemgilajaeaa", sum := "b6e3cf734024ba1445c2192f096cf5a9f80ffc20d7afe4dcc0573c5a04cbb5e6", func := "loop.example/g01318/laws.FnExactTurtleLine", spec := "fnExactTurtleLine", inPlace := ["math.Float32frombits", "math.Float64frombits", "internal/bytealg.IndexByteString", "math.Float64bits", "internal/bytealg.IndexString"], unfollowed := true, recurses := true, named := ["internal/bytealg.MaxLen"], apart := false }
def FnExactTurtleLineSaid : Prop := fnExactTurtleLineRow.holds Try.pinned (OpenSpec.ofChange fnExactTurtleLineSpec)

/-- ITS FALSE NEIGHBOUR: 'it returns false'. Refute it at one input. -/
def fnExactTurtleLineWrong : ChangeSpec := { name := "fnExactTurtleLine", fn := fun _ => fun
  | [d1, d2, d3] => { results := [.lit (.bool false)], args := [d1, d2, d3] }
  | _ => none }
def FnExactTurtleLineWrongFalsely : Prop := fnExactTurtleLineRow.holds Try.pinned (OpenSpec.ofChange fnExactTurtleLineWrong)

/-- 'laws.FnExactSpectrumLine': WHATEVER THE INPUT: true; the input reads as it did. -/
def fnExactSpectrumLineSpec : ChangeSpec := { name := "fnExactSpectrumLine", fn := fun _ => fun
  | [d1, d2, d3] => { results := [.lit (.bool true)], args := [d1, d2, d3] }
  | _ => none }
def fnExactSpectrumLineRow : OpenClaim := { program := "yteolemgilajaeaa", sum := "b6e3cf734024ba1445c2192f096cf5a9f80ffc20d7afe4dcc0573c5a04cbb5e6", func := "loop.example/g01318/laws.FnExactSpectrumLine", spec := "fnExactSpectrumLine", inPlace := ["math.Float64frombits", "math.Float64bits", "math.Float32frombits"], unfollowed := true, recurses := true, apart := false }
def FnExactSpectrumLineSaid : Prop := fnExactSpectrumLineRow.holds Try.pinned (OpenSpec.ofChange fnExactSpectrumLineSpec)

/-- ITS FALSE NEIGHBOUR: 'it returns false'. Refute it at one input. -/
def fnExactSpectrumLineWrong : ChangeSpec := { name := "fnExactSpectrumLine", fn := fun _ => fun
  | [d1, d2, d3] => { results := [.lit (.bool false)], args := [d1, d2, d3] }
  | _ => none }
def FnExactSpectrumLineWrongFalsely : Prop := fnExactSpectrumLineRow.holds Try.pinned (OpenSpec.ofChange fnExactSpectrumLineWrong)

/- THE SECOND FORM. 'bulk': how many values and letters a reading holds, each counted each time it is reached (what is shared counts as often as it is met; a slice's spare places count too). A statement '..UptoSaid' is the law's where the arguments, and the package variables that the reading takes, are together of bulk at most 1048576: NARROWER than '..Said'. Prove '..Said' where nothing that the law and all that it calls make is longer than what came in: it says more and counts as full. Else prove '..UptoSaid'. A law counts once. -/
mutual
def uptoBulk {H : Type} : DataW H → Nat
  | .lit (.string bytes) => bytes.length + 1
  | .lit _ => 1
  | .nil => 1
  | .ptr d => uptoBulk d + 1
  | .slice elems spare => uptoBulkAll elems + uptoBulkAll spare + 1
  | .agg parts => uptoBulkAll parts + 1
  | .iface _ d => uptoBulk d + 1
  | .map entries => uptoBulkEntries entries + 1
  | .held _ => 1
def uptoBulkAll {H : Type} : List (DataW H) → Nat
  | [] => 0
  | d :: r => uptoBulk d + uptoBulkAll r
def uptoBulkEntries {H : Type} : List (Lit × DataW H) → Nat
  | [] => 0
  | x :: r => uptoBulkEntry x + uptoBulkEntries r
def uptoBulkEntry {H : Type} : Lit × DataW H → Nat
  | (.string bytes, d) => bytes.length + uptoBulk d + 1
  | (_, d) => uptoBulk d + 1
 end
def uptoSmall : (H : Type) → List (DataW H) → Bool := fun _ ds => decide (uptoBulkAll ds ≤ 1048576)
def OpenSpec.upto (s : _root_.Go.ChangeSpec) : _root_.Go.OpenSpec := { _root_.Go.OpenSpec.ofChange s with cond := some uptoSmall }

/-- 'laws.FnExactTurtleTwigs', WHERE WHAT IT READS IS OF BULK AT MOST 1048576: true; the input reads as it did. -/
def fnExactTurtleTwigsUptoRow : OpenClaim := { program := "yteolemgilajaeaa", sum := "b6e3cf734024ba1445c2192f096cf5a9f80ffc20d7afe4dcc0573c5a04cbb5e6", func := "loop.example/g01318/laws.FnExactTurtleTwigs", spec := "fnExactTurtleTwigs", inPlace := ["math.Float32frombits", "math.Float64frombits", "internal/bytealg.IndexByteString", "math.Float64bits"], unfollowed := true, recurses := true, apart := false, narrowed := true }
def FnExactTurtleTwigsUptoSaid : Prop := fnExactTurtleTwigsUptoRow.holds Try.pinned (OpenSpec.upto fnExactTurtleTwigsSpec)

/-- 'laws.FnExactTurtleLine', WHERE WHAT IT READS IS OF BULK AT MOST 1048576: true; the input reads as it did. -/
def fnExactTurtleLineUptoRow : OpenClaim := { program := "yteolemgilajaeaa", sum := "b6e3cf734024ba1445c2192f096cf5a9f80ffc20d7afe4dcc0573c5a04cbb5e6", func := "loop.example/g01318/laws.FnExactTurtleLine", spec := "fnExactTurtleLine", inPlace := ["math.Float32frombits", "math.Float64frombits", "internal/bytealg.IndexByteString", "math.Float64bits", "internal/bytealg.IndexString"], unfollowed := true, recurses := true, named := ["internal/bytealg.MaxLen"], apart := false, narrowed := true }
def FnExactTurtleLineUptoSaid : Prop := fnExactTurtleLineUptoRow.holds Try.pinned (OpenSpec.upto fnExactTurtleLineSpec)

/-- 'laws.FnExactSpectrumLine', WHERE WHAT IT READS IS OF BULK AT MOST 1048576: true; the input reads as it did. -/
def fnExactSpectrumLineUptoRow : OpenClaim := { program := "yteolemgilajaeaa", sum := "b6e3cf734024ba1445c2192f096cf5a9f80ffc20d7afe4dcc0573c5a04cbb5e6", func := "loop.example/g01318/laws.FnExactSpectrumLine", spec := "fnExactSpectrumLine", inPlace := ["math.Float64frombits", "math.Float64bits", "math.Float32frombits"], unfollowed := true, recurses := true, apart := false, narrowed := true }
def FnExactSpectrumLineUptoSaid : Prop := fnExactSpectrumLineUptoRow.holds Try.pinned (OpenSpec.upto fnExactSpectrumLineSpec)

end Rows
end Go.Proofs.Yteolemgilajaeaa
