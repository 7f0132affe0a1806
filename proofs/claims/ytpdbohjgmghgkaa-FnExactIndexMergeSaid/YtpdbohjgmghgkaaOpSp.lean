


/- An index that came in, read. -/
import Derived.Test.YtpdbohjgmghgkaaOpen
import Derived.Test.YtpdbohjgmghgkaaESpot
namespace Go.Proofs.Ytpdbohjgmghgkaa
open Go.RowKit Go.ChangeShapes Go.WideShapes Go.ChangeAt

set_option maxRecDepth 100000 in
theorem open_spots {H : Type} {enc : TypeId × Value → H} {w : World} {base : Nat} {spare : Nat → Bool} {held : Bool} {b0 : Nat} {rr : Reach} {v : Value} {d : DataW H} {p : List MemPlace}
    (hv : Value.okWide Try.prog w rr b0 22 v) (h : DataW.Trod enc Try.prog w base spare held 22 v d p) (hlt : ∀ x ∈ p, x.block < w.heap.size) : ∃ xs : List Sp, RSl RSp 2 w 0 w.heap.size xs [v] := by
  have hG0 : Opens enc Try.prog w 91 (R2 RInt 1 RInt) := opens_struct2 1 1 Try.underlying91 (by kernel_rfl) rfl (by kernel_rfl) rfl (by kernel_rfl) (opens_int Try.underlying3) (opens_int Try.underlying3)
  have hG : Opens enc Try.prog w 22 (RSl RSp 2) := opens_slice Try.underlying22 (by kernel_rfl) (by decide) (hG0.map (fun x => (⟨x.1, x.2⟩ : Sp)) fun a cs ⟨c0, c1, he, _, h0, h1⟩ => by
    obtain ⟨rfl, i0⟩ := h0
    obtain ⟨rfl, i1⟩ := h1
    exact ⟨by rw [he]; rfl, i0, i1⟩)
  obtain ⟨xs, A, c, hA, hr⟩ := hG.arg h hlt
  refine ⟨xs, A, c, ?_, hr⟩
  have hv1 : v.cells.toList = [.slice A xs.length c] := hA
  obtain ⟨a0, len, cap, rfl⟩ := okWide_slice Try.underlying22 hv
  exact hv1
end Go.Proofs.Ytpdbohjgmghgkaa
