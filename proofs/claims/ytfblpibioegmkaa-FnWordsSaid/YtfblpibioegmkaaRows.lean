/-
  No cell of these rows narrows 'for every input' (looked for: loops, veiled, ifaces, maps, wideKeys, modest, calm, conditions, laid).
  DERIVED. THE GIVEN ROWS OF THIS SEAT. 12 by the template 'for every input the law returns true; each argument reads behind the call as it read before'; 0 by the template 'total and deterministic' (their statements: YtfblpibioegmkaaTotals.lean).
  GIVEN WITH THE SEED: the statements are not yours to turn. If you find one false, say at which input.
  Laid BY PROGRAM, IN A SANDBOX (cutbox-rows.mjs): the forced cells as the released guide's own fill.sh prints them over the translation 9193f74d83fd7582… (all of the seat's roots in one cut). By AI agents, Wed Nov 11 2026. No macro, syntax, notation, axiom, sorry.
-/
import Derived.Test.YtfblpibioegmkaaChecked
import GoSem.Claim
import GoSem.ClaimJoined
import GoSem.ClaimMapViews
import Derived.JoinedTies
import Derived.KernelRfl
namespace Go.Proofs.Ytfblpibioegmkaa
/- THE CELL 'sum', in the pinned program and in every row, IS THE sha256 OF THE DUMP (.gsa) THAT YtfblpibioegmkaaProg.lean LOADS. Nothing in Lean hashes anything: it is a label: what it is worth is what the hold of that sum in a sandbox is worth. -/
noncomputable def Try.pinned : Pinned := { name := "ytfblpibioegmkaa", sum := "9193f74d83fd75827ff53ca180c1764eec994961852657130442fdd3f49e2ec2", checked := Try.checked }
namespace Rows
def none {H : Type} : Left H := { results := [], args := [] }

/-- 'laws.FnExactIsWord': WHATEVER THE INPUT: true; the input reads as it did. -/
def fnExactIsWordSpec : ChangeSpec := { name := "fnExactIsWord", fn := fun _ => fun
  | [d] => { results := [.lit (.bool true)], args := [d] }
  | _ => none }
def fnExactIsWordRow : OpenClaim := { program := "ytfblpibioegmkaa", sum := "9193f74d83fd75827ff53ca180c1764eec994961852657130442fdd3f49e2ec2", func := "loop.example/g01318/laws.FnExactIsWord", spec := "fnExactIsWord", inPlace := ["internal/bytealg.IndexByteString"], apart := false }
def FnExactIsWordSaid : Prop := fnExactIsWordRow.holds Try.pinned (OpenSpec.ofChange fnExactIsWordSpec)

/-- ITS FALSE NEIGHBOUR: 'it returns false'. Refute it at one input. -/
def fnExactIsWordWrong : ChangeSpec := { name := "fnExactIsWord", fn := fun _ => fun
  | [d] => { results := [.lit (.bool false)], args := [d] }
  | _ => none }
def FnExactIsWordWrongFalsely : Prop := fnExactIsWordRow.holds Try.pinned (OpenSpec.ofChange fnExactIsWordWrong)

/-- 'laws.FnExactBushGrammar': WHATEVER THE INPUT: true; the input reads as it did. -/
def fnExactBushGrammarSpec : ChangeSpec := { name := "fnExactBushGrammar", fn := fun _ => fun
  | [] => { results := [.lit (.bool true)], args := [] }
  | _ => none }
def fnExactBushGrammarRow : OpenClaim := { program := "ytfblpibioegmkaa", sum := "9193f74d83fd75827ff53ca180c1764eec994961852657130442fdd3f49e2ec2", func := "loop.example/g01318/laws.FnExactBushGrammar", spec := "fnExactBushGrammar", apart := false }
def FnExactBushGrammarSaid : Prop := fnExactBushGrammarRow.holds Try.pinned (OpenSpec.ofChange fnExactBushGrammarSpec)

/-- ITS FALSE NEIGHBOUR: 'it returns false'. Refute it at one input. -/
def fnExactBushGrammarWrong : ChangeSpec := { name := "fnExactBushGrammar", fn := fun _ => fun
  | [] => { results := [.lit (.bool false)], args := [] }
  | _ => none }
def FnExactBushGrammarWrongFalsely : Prop := fnExactBushGrammarRow.holds Try.pinned (OpenSpec.ofChange fnExactBushGrammarWrong)

/-- 'laws.FnExactDragonGrammar': WHATEVER THE INPUT: true; the input reads as it did. -/
def fnExactDragonGrammarSpec : ChangeSpec := { name := "fnExactDragonGrammar", fn := fun _ => fun
  | [] => { results := [.lit (.bool true)], args := [] }
  | _ => none }
def fnExactDragonGrammarRow : OpenClaim := { program := "ytfblpibioegmkaa", sum := "9193f74d83fd75827ff53ca180c1764eec994961852657130442fdd3f49e2ec2", func := "loop.example/g01318/laws.FnExactDragonGrammar", spec := "fnExactDragonGrammar", apart := false }
def FnExactDragonGrammarSaid : Prop := fnExactDragonGrammarRow.holds Try.pinned (OpenSpec.ofChange fnExactDragonGrammarSpec)

/-- ITS FALSE NEIGHBOUR: 'it returns false'. Refute it at one input. -/
def fnExactDragonGrammarWrong : ChangeSpec := { name := "fnExactDragonGrammar", fn := fun _ => fun
  | [] => { results := [.lit (.bool false)], args := [] }
  | _ => none }
def FnExactDragonGrammarWrongFalsely : Prop := fnExactDragonGrammarRow.holds Try.pinned (OpenSpec.ofChange fnExactDragonGrammarWrong)

/-- 'laws.FnExactKochGrammar': WHATEVER THE INPUT: true; the input reads as it did. -/
def fnExactKochGrammarSpec : ChangeSpec := { name := "fnExactKochGrammar", fn := fun _ => fun
  | [] => { results := [.lit (.bool true)], args := [] }
  | _ => none }
def fnExactKochGrammarRow : OpenClaim := { program := "ytfblpibioegmkaa", sum := "9193f74d83fd75827ff53ca180c1764eec994961852657130442fdd3f49e2ec2", func := "loop.example/g01318/laws.FnExactKochGrammar", spec := "fnExactKochGrammar", apart := false }
def FnExactKochGrammarSaid : Prop := fnExactKochGrammarRow.holds Try.pinned (OpenSpec.ofChange fnExactKochGrammarSpec)

/-- ITS FALSE NEIGHBOUR: 'it returns false'. Refute it at one input. -/
def fnExactKochGrammarWrong : ChangeSpec := { name := "fnExactKochGrammar", fn := fun _ => fun
  | [] => { results := [.lit (.bool false)], args := [] }
  | _ => none }
def FnExactKochGrammarWrongFalsely : Prop := fnExactKochGrammarRow.holds Try.pinned (OpenSpec.ofChange fnExactKochGrammarWrong)

/-- 'laws.FnExactSameGrammar': WHATEVER THE INPUT: true; the input reads as it did. -/
def fnExactSameGrammarSpec : ChangeSpec := { name := "fnExactSameGrammar", fn := fun _ => fun
  | [d1, d2] => { results := [.lit (.bool true)], args := [d1, d2] }
  | _ => none }
def fnExactSameGrammarRow : OpenClaim := { program := "ytfblpibioegmkaa", sum := "9193f74d83fd75827ff53ca180c1764eec994961852657130442fdd3f49e2ec2", func := "loop.example/g01318/laws.FnExactSameGrammar", spec := "fnExactSameGrammar", apart := false }
def FnExactSameGrammarSaid : Prop := fnExactSameGrammarRow.holds Try.pinned (OpenSpec.ofChange fnExactSameGrammarSpec)

/-- ITS FALSE NEIGHBOUR: 'it returns false'. Refute it at one input. -/
def fnExactSameGrammarWrong : ChangeSpec := { name := "fnExactSameGrammar", fn := fun _ => fun
  | [d1, d2] => { results := [.lit (.bool false)], args := [d1, d2] }
  | _ => none }
def FnExactSameGrammarWrongFalsely : Prop := fnExactSameGrammarRow.holds Try.pinned (OpenSpec.ofChange fnExactSameGrammarWrong)

/-- 'laws.FnExactValidGrammar': WHATEVER THE INPUT: true; the input reads as it did. -/
def fnExactValidGrammarSpec : ChangeSpec := { name := "fnExactValidGrammar", fn := fun _ => fun
  | [d] => { results := [.lit (.bool true)], args := [d] }
  | _ => none }
def fnExactValidGrammarRow : OpenClaim := { program := "ytfblpibioegmkaa", sum := "9193f74d83fd75827ff53ca180c1764eec994961852657130442fdd3f49e2ec2", func := "loop.example/g01318/laws.FnExactValidGrammar", spec := "fnExactValidGrammar", inPlace := ["internal/bytealg.IndexByteString"], apart := false }
def FnExactValidGrammarSaid : Prop := fnExactValidGrammarRow.holds Try.pinned (OpenSpec.ofChange fnExactValidGrammarSpec)

/-- ITS FALSE NEIGHBOUR: 'it returns false'. Refute it at one input. -/
def fnExactValidGrammarWrong : ChangeSpec := { name := "fnExactValidGrammar", fn := fun _ => fun
  | [d] => { results := [.lit (.bool false)], args := [d] }
  | _ => none }
def FnExactValidGrammarWrongFalsely : Prop := fnExactValidGrammarRow.holds Try.pinned (OpenSpec.ofChange fnExactValidGrammarWrong)

/-- 'laws.FnExactRewriteOnce': WHATEVER THE INPUT: true; the input reads as it did. -/
def fnExactRewriteOnceSpec : ChangeSpec := { name := "fnExactRewriteOnce", fn := fun _ => fun
  | [d1, d2] => { results := [.lit (.bool true)], args := [d1, d2] }
  | _ => none }
def fnExactRewriteOnceRow : OpenClaim := { program := "ytfblpibioegmkaa", sum := "9193f74d83fd75827ff53ca180c1764eec994961852657130442fdd3f49e2ec2", func := "loop.example/g01318/laws.FnExactRewriteOnce", spec := "fnExactRewriteOnce", inPlace := ["internal/bytealg.IndexByteString", "internal/abi.NoEscape"], unfollowed := true, recurses := true, apart := false }
def FnExactRewriteOnceSaid : Prop := fnExactRewriteOnceRow.holds Try.pinned (OpenSpec.ofChange fnExactRewriteOnceSpec)

/-- ITS FALSE NEIGHBOUR: 'it returns false'. Refute it at one input. -/
def fnExactRewriteOnceWrong : ChangeSpec := { name := "fnExactRewriteOnce", fn := fun _ => fun
  | [d1, d2] => { results := [.lit (.bool false)], args := [d1, d2] }
  | _ => none }
def FnExactRewriteOnceWrongFalsely : Prop := fnExactRewriteOnceRow.holds Try.pinned (OpenSpec.ofChange fnExactRewriteOnceWrong)

/-- 'laws.FnExactRewrite': WHATEVER THE INPUT: true; the input reads as it did. -/
def fnExactRewriteSpec : ChangeSpec := { name := "fnExactRewrite", fn := fun _ => fun
  | [d1, d2] => { results := [.lit (.bool true)], args := [d1, d2] }
  | _ => none }
def fnExactRewriteRow : OpenClaim := { program := "ytfblpibioegmkaa", sum := "9193f74d83fd75827ff53ca180c1764eec994961852657130442fdd3f49e2ec2", func := "loop.example/g01318/laws.FnExactRewrite", spec := "fnExactRewrite", inPlace := ["internal/bytealg.IndexByteString", "internal/abi.NoEscape"], unfollowed := true, recurses := true, apart := false }
def FnExactRewriteSaid : Prop := fnExactRewriteRow.holds Try.pinned (OpenSpec.ofChange fnExactRewriteSpec)

/-- ITS FALSE NEIGHBOUR: 'it returns false'. Refute it at one input. -/
def fnExactRewriteWrong : ChangeSpec := { name := "fnExactRewrite", fn := fun _ => fun
  | [d1, d2] => { results := [.lit (.bool false)], args := [d1, d2] }
  | _ => none }
def FnExactRewriteWrongFalsely : Prop := fnExactRewriteRow.holds Try.pinned (OpenSpec.ofChange fnExactRewriteWrong)

/-- 'laws.FnExactLongAfter': WHATEVER THE INPUT: true; the input reads as it did. -/
def fnExactLongAfterSpec : ChangeSpec := { name := "fnExactLongAfter", fn := fun _ => fun
  | [d1, d2] => { results := [.lit (.bool true)], args := [d1, d2] }
  | _ => none }
def fnExactLongAfterRow : OpenClaim := { program := "ytfblpibioegmkaa", sum := "9193f74d83fd75827ff53ca180c1764eec994961852657130442fdd3f49e2ec2", func := "loop.example/g01318/laws.FnExactLongAfter", spec := "fnExactLongAfter", inPlace := ["internal/bytealg.IndexByteString"], unfollowed := true, recurses := true, apart := false }
def FnExactLongAfterSaid : Prop := fnExactLongAfterRow.holds Try.pinned (OpenSpec.ofChange fnExactLongAfterSpec)

/-- ITS FALSE NEIGHBOUR: 'it returns false'. Refute it at one input. -/
def fnExactLongAfterWrong : ChangeSpec := { name := "fnExactLongAfter", fn := fun _ => fun
  | [d1, d2] => { results := [.lit (.bool false)], args := [d1, d2] }
  | _ => none }
def FnExactLongAfterWrongFalsely : Prop := fnExactLongAfterRow.holds Try.pinned (OpenSpec.ofChange fnExactLongAfterWrong)

/-- 'laws.FnExactLettersAfter': WHATEVER THE INPUT: true; the input reads as it did. -/
def fnExactLettersAfterSpec : ChangeSpec := { name := "fnExactLettersAfter", fn := fun _ => fun
  | [d1, d2] => { results := [.lit (.bool true)], args := [d1, d2] }
  | _ => none }
def fnExactLettersAfterRow : OpenClaim := { program := "ytfblpibioegmkaa", sum := "9193f74d83fd75827ff53ca180c1764eec994961852657130442fdd3f49e2ec2", func := "loop.example/g01318/laws.FnExactLettersAfter", spec := "fnExactLettersAfter", inPlace := ["internal/bytealg.IndexByteString"], unfollowed := true, recurses := true, apart := false }
def FnExactLettersAfterSaid : Prop := fnExactLettersAfterRow.holds Try.pinned (OpenSpec.ofChange fnExactLettersAfterSpec)

/-- ITS FALSE NEIGHBOUR: 'it returns false'. Refute it at one input. -/
def fnExactLettersAfterWrong : ChangeSpec := { name := "fnExactLettersAfter", fn := fun _ => fun
  | [d1, d2] => { results := [.lit (.bool false)], args := [d1, d2] }
  | _ => none }
def FnExactLettersAfterWrongFalsely : Prop := fnExactLettersAfterRow.holds Try.pinned (OpenSpec.ofChange fnExactLettersAfterWrong)

/-- 'laws.FnExactPutRule': WHATEVER THE INPUT: true; the input reads as it did. -/
def fnExactPutRuleSpec : ChangeSpec := { name := "fnExactPutRule", fn := fun _ => fun
  | [d1, d2] => { results := [.lit (.bool true)], args := [d1, d2] }
  | _ => none }
def fnExactPutRuleRow : OpenClaim := { program := "ytfblpibioegmkaa", sum := "9193f74d83fd75827ff53ca180c1764eec994961852657130442fdd3f49e2ec2", func := "loop.example/g01318/laws.FnExactPutRule", spec := "fnExactPutRule", inPlace := ["internal/bytealg.IndexByteString", "slices.overlaps[loop.example/g01318/impl.Rule]"], unfollowed := true, recurses := true, apart := false }
def FnExactPutRuleSaid : Prop := fnExactPutRuleRow.holds Try.pinned (OpenSpec.ofChange fnExactPutRuleSpec)

/-- ITS FALSE NEIGHBOUR: 'it returns false'. Refute it at one input. -/
def fnExactPutRuleWrong : ChangeSpec := { name := "fnExactPutRule", fn := fun _ => fun
  | [d1, d2] => { results := [.lit (.bool false)], args := [d1, d2] }
  | _ => none }
def FnExactPutRuleWrongFalsely : Prop := fnExactPutRuleRow.holds Try.pinned (OpenSpec.ofChange fnExactPutRuleWrong)

/-- 'laws.FnWords': WHATEVER THE INPUT: true; the input reads as it did. -/
def fnWordsSpec : ChangeSpec := { name := "fnWords", fn := fun _ => fun
  | [d1, d2] => { results := [.lit (.bool true)], args := [d1, d2] }
  | _ => none }
def fnWordsRow : OpenClaim := { program := "ytfblpibioegmkaa", sum := "9193f74d83fd75827ff53ca180c1764eec994961852657130442fdd3f49e2ec2", func := "loop.example/g01318/laws.FnWords", spec := "fnWords", inPlace := ["internal/bytealg.IndexByteString", "internal/abi.NoEscape", "slices.overlaps[loop.example/g01318/impl.Rule]"], unfollowed := true, recurses := true, apart := false }
def FnWordsSaid : Prop := fnWordsRow.holds Try.pinned (OpenSpec.ofChange fnWordsSpec)

/-- ITS FALSE NEIGHBOUR: 'it returns false'. Refute it at one input. -/
def fnWordsWrong : ChangeSpec := { name := "fnWords", fn := fun _ => fun
  | [d1, d2] => { results := [.lit (.bool false)], args := [d1, d2] }
  | _ => none }
def FnWordsWrongFalsely : Prop := fnWordsRow.holds Try.pinned (OpenSpec.ofChange fnWordsWrong)

/- THE SECOND FORM. 'bulk': how many values and letters a reading holds, each counted each time it is reached (what is shared counts as often as it is met; a slice's spare places count too). A statement '..UptoSaid' is the law's where the arguments, and the package variables that the reading takes, are together of bulk at most 1048576: NARROWER than '..Said'. Prove '..Said' where nothing that the law and all that it calls make is longer than what came in: it says more and counts as full. Else prove '..UptoSaid'. A law counts once. -/
mutual
def uptoBulk {H : Type} : DataW H → Nat
  | .lit (.string bytes) => bytes.length + 1
  | .lit _ => 1
  | .nil => 1
  | .ptr d => uptoBulk d + 1
  | .slice elems spare => uptoBulkAll elems + uptoBulkAll spare + 1
  | .agg parts => uptoBulkAll parts + 1
  | .iface _ d => uptoBulk d + 1
  | .map entries => uptoBulkEntries entries + 1
  | .held _ => 1
def uptoBulkAll {H : Type} : List (DataW H) → Nat
  | [] => 0
  | d :: r => uptoBulk d + uptoBulkAll r
def uptoBulkEntries {H : Type} : List (Lit × DataW H) → Nat
  | [] => 0
  | x :: r => uptoBulkEntry x + uptoBulkEntries r
def uptoBulkEntry {H : Type} : Lit × DataW H → Nat
  | (.string bytes, d) => bytes.length + uptoBulk d + 1
  | (_, d) => uptoBulk d + 1
 end
def uptoSmall : (H : Type) → List (DataW H) → Bool := fun _ ds => decide (uptoBulkAll ds ≤ 1048576)
def OpenSpec.upto (s : _root_.Go.ChangeSpec) : _root_.Go.OpenSpec := { _root_.Go.OpenSpec.ofChange s with cond := some uptoSmall }

/-- 'laws.FnExactIsWord', WHERE WHAT IT READS IS OF BULK AT MOST 1048576: true; the input reads as it did. -/
def fnExactIsWordUptoRow : OpenClaim := { program := "ytfblpibioegmkaa", sum := "9193f74d83fd75827ff53ca180c1764eec994961852657130442fdd3f49e2ec2", func := "loop.example/g01318/laws.FnExactIsWord", spec := "fnExactIsWord", inPlace := ["internal/bytealg.IndexByteString"], apart := false, narrowed := true }
def FnExactIsWordUptoSaid : Prop := fnExactIsWordUptoRow.holds Try.pinned (OpenSpec.upto fnExactIsWordSpec)

/-- 'laws.FnExactBushGrammar', WHERE WHAT IT READS IS OF BULK AT MOST 1048576: true; the input reads as it did. -/
def fnExactBushGrammarUptoRow : OpenClaim := { program := "ytfblpibioegmkaa", sum := "9193f74d83fd75827ff53ca180c1764eec994961852657130442fdd3f49e2ec2", func := "loop.example/g01318/laws.FnExactBushGrammar", spec := "fnExactBushGrammar", apart := false, narrowed := true }
def FnExactBushGrammarUptoSaid : Prop := fnExactBushGrammarUptoRow.holds Try.pinned (OpenSpec.upto fnExactBushGrammarSpec)

/-- 'laws.FnExactDragonGrammar', WHERE WHAT IT READS IS OF BULK AT MOST 1048576: true; the input reads as it did. -/
def fnExactDragonGrammarUptoRow : OpenClaim := { program := "ytfblpibioegmkaa", sum := "9193f74d83fd75827ff53ca180c1764eec994961852657130442fdd3f49e2ec2", func := "loop.example/g01318/laws.FnExactDragonGrammar", spec := "fnExactDragonGrammar", apart := false, narrowed := true }
def FnExactDragonGrammarUptoSaid : Prop := fnExactDragonGrammarUptoRow.holds Try.pinned (OpenSpec.upto fnExactDragonGrammarSpec)

/-- 'laws.FnExactKochGrammar', WHERE WHAT IT READS IS OF BULK AT MOST 1048576: true; the input reads as it did. -/
def fnExactKochGrammarUptoRow : OpenClaim := { program := "ytfblpibioegmkaa", sum := "9193f74d83fd75827ff53ca180c1764eec994961852657130442fdd3f49e2ec2", func := "loop.example/g01318/laws.FnExactKochGrammar", spec := "fnExactKochGrammar", apart := false, narrowed := true }
def FnExactKochGrammarUptoSaid : Prop := fnExactKochGrammarUptoRow.holds Try.pinned (OpenSpec.upto fnExactKochGrammarSpec)

/-- 'laws.FnExactSameGrammar', WHERE WHAT IT READS IS OF BULK AT MOST 1048576: true; the input reads as it did. -/
def fnExactSameGrammarUptoRow : OpenClaim := { program := "ytfblpibioegmkaa", sum := "9193f74d83fd75827ff53ca180c1764eec994961852657130442fdd3f49e2ec2", func := "loop.example/g01318/laws.FnExactSameGrammar", spec := "fnExactSameGrammar", apart := false, narrowed := true }
def FnExactSameGrammarUptoSaid : Prop := fnExactSameGrammarUptoRow.holds Try.pinned (OpenSpec.upto fnExactSameGrammarSpec)

/-- 'laws.FnExactValidGrammar', WHERE WHAT IT READS IS OF BULK AT MOST 1048576: true; the input reads as it did. -/
def fnExactValidGrammarUptoRow : OpenClaim := { program := "ytfblpibioegmkaa", sum := "9193f74d83fd75827ff53ca180c1764eec994961852657130442fdd3f49e2ec2", func := "loop.example/g01318/laws.FnExactValidGrammar", spec := "fnExactValidGrammar", inPlace := ["internal/bytealg.IndexByteString"], apart := false, narrowed := true }
def FnExactValidGrammarUptoSaid : Prop := fnExactValidGrammarUptoRow.holds Try.pinned (OpenSpec.upto fnExactValidGrammarSpec)

/-- 'laws.FnExactRewriteOnce', WHERE WHAT IT READS IS OF BULK AT MOST 1048576: true; the input reads as it did. -/
def fnExactRewriteOnceUptoRow : OpenClaim := { program := "ytfblpibioegmkaa", sum := "9193f74d83fd75827ff53ca180c1764eec994961852657130442fdd3f49e2ec2", func := "loop.example/g01318/laws.FnExactRewriteOnce", spec := "fnExactRewriteOnce", inPlace := ["internal/bytealg.IndexByteString", "internal/abi.NoEscape"], unfollowed := true, recurses := true, apart := false, narrowed := true }
def FnExactRewriteOnceUptoSaid : Prop := fnExactRewriteOnceUptoRow.holds Try.pinned (OpenSpec.upto fnExactRewriteOnceSpec)

/-- 'laws.FnExactRewrite', WHERE WHAT IT READS IS OF BULK AT MOST 1048576: true; the input reads as it did. -/
def fnExactRewriteUptoRow : OpenClaim := { program := "ytfblpibioegmkaa", sum := "9193f74d83fd75827ff53ca180c1764eec994961852657130442fdd3f49e2ec2", func := "loop.example/g01318/laws.FnExactRewrite", spec := "fnExactRewrite", inPlace := ["internal/bytealg.IndexByteString", "internal/abi.NoEscape"], unfollowed := true, recurses := true, apart := false, narrowed := true }
def FnExactRewriteUptoSaid : Prop := fnExactRewriteUptoRow.holds Try.pinned (OpenSpec.upto fnExactRewriteSpec)

/-- 'laws.FnExactLongAfter', WHERE WHAT IT READS IS OF BULK AT MOST 1048576: true; the input reads as it did. -/
def fnExactLongAfterUptoRow : OpenClaim := { program := "ytfblpibioegmkaa", sum := "9193f74d83fd75827ff53ca180c1764eec994961852657130442fdd3f49e2ec2", func := "loop.example/g01318/laws.FnExactLongAfter", spec := "fnExactLongAfter", inPlace := ["internal/bytealg.IndexByteString"], unfollowed := true, recurses := true, apart := false, narrowed := true }
def FnExactLongAfterUptoSaid : Prop := fnExactLongAfterUptoRow.holds Try.pinned (OpenSpec.upto fnExactLongAfterSpec)

/-- 'laws.FnExactLettersAfter', WHERE WHAT IT READS IS OF BULK AT MOST 1048576: true; the input reads as it did. -/
def fnExactLettersAfterUptoRow : OpenClaim := { program := "ytfblpibioegmkaa", sum := "9193f74d83fd75827ff53ca180c1764eec994961852657130442fdd3f49e2ec2", func := "loop.example/g01318/laws.FnExactLettersAfter", spec := "fnExactLettersAfter", inPlace := ["internal/bytealg.IndexByteString"], unfollowed := true, recurses := true, apart := false, narrowed := true }
def FnExactLettersAfterUptoSaid : Prop := fnExactLettersAfterUptoRow.holds Try.pinned (OpenSpec.upto fnExactLettersAfterSpec)

/-- 'laws.FnExactPutRule', WHERE WHAT IT READS IS OF BULK AT MOST 1048576: true; the input reads as it did. -/
def fnExactPutRuleUptoRow : OpenClaim := { program := "ytfblpibioegmkaa", sum := "9193f74d83fd75827ff53ca180c1764eec994961852657130442fdd3f49e2ec2", func := "loop.example/g01318/laws.FnExactPutRule", spec := "fnExactPutRule", inPlace := ["internal/bytealg.IndexByteString", "slices.overlaps[loop.example/g01318/impl.Rule]"], unfollowed := true, recurses := true, apart := false, narrowed := true }
def FnExactPutRuleUptoSaid : Prop := fnExactPutRuleUptoRow.holds Try.pinned (OpenSpec.upto fnExactPutRuleSpec)

/-- 'laws.FnWords', WHERE WHAT IT READS IS OF BULK AT MOST 1048576: true; the input reads as it did. -/
def fnWordsUptoRow : OpenClaim := { program := "ytfblpibioegmkaa", sum := "9193f74d83fd75827ff53ca180c1764eec994961852657130442fdd3f49e2ec2", func := "loop.example/g01318/laws.FnWords", spec := "fnWords", inPlace := ["internal/bytealg.IndexByteString", "internal/abi.NoEscape", "slices.overlaps[loop.example/g01318/impl.Rule]"], unfollowed := true, recurses := true, apart := false, narrowed := true }
def FnWordsUptoSaid : Prop := fnWordsUptoRow.holds Try.pinned (OpenSpec.upto fnWordsSpec)

end Rows
end Go.Proofs.Ytfblpibioegmkaa
