/- Slices of float32: copied, compared, marked, held. -/
import Derived.Test.YtamgekijihpgkaaSame
import Derived.Handy
import Derived.Deep.RegionHeld3
import Derived.Deep.RegionWith
import Derived.BigRegion
namespace Go.Proofs.Ytamgekijihpgkaa
open Go.RowKit

def fv (b : Nat) : Value := .float .f32 b
/-- The slice at A reads as these numbers. -/
def FRd (w : World) (A : Option Addr) (bs : List Nat) : Prop := Rd w A (bs.map fv)
theorem FRd.at_ {w : World} {A : Option Addr} {bs : List Nat} (h : FRd w A bs) {k : Nat} (hk : k < bs.length) : ∃ b o, A = some ⟨b, o, none⟩ ∧ b < w.heap.size ∧ w.cell? ⟨b, o + k, none⟩ = some (.float .f32 bs[k]) :=
  h k (fv bs[k]) (by simp [hk])

theorem info.f32 : (Try.prog.info? 25).map (fun i => (i.zero, i.size, i.bytes)) = some (some (.float .f32 0), 1, 4) := by kernel_rfl

end Go.Proofs.Ytamgekijihpgkaa
