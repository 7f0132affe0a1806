


/- Stores, and packs, that came in, read. -/
import Derived.Test.YtanppokbjladfaaOpen
import Derived.Test.YtanppokbjladfaaESto
namespace Go.Proofs.Ytanppokbjladfaa
open Go.RowKit Go.ChangeShapes Go.WideShapes Go.ChangeAt

/-- A store as a value. -/
def RStore (w : World) (lo hi : Nat) (s : Sto) (v : Value) : Prop := ∃ va vb vc, v = .agg #[va, vb, vc] ∧ RStoL w lo hi s va vb vc
set_option maxRecDepth 100000 in
theorem opens_packs {H : Type} {enc : TypeId × Value → H} {w : World} : Opens enc Try.prog w 22 RPksL := by
  have hI0 : Opens enc Try.prog w 172 (R2 RInt 1 RStr) := opens_struct2 1 1 Try.underlying172 (by kernel_rfl) rfl (by kernel_rfl) rfl (by kernel_rfl) (opens_int Try.underlying3) (opens_str Try.underlying9)
  have hI : Opens enc Try.prog w 73 RItsL := opens_slice Try.underlying73 (by kernel_rfl) (by decide) (hI0.map (fun x => (⟨x.1, x.2⟩ : It)) fun a cs ⟨c0, c1, he, _, h0, h1⟩ => by
    obtain ⟨rfl, i0⟩ := h0
    obtain ⟨rfl, i1⟩ := h1
    exact ⟨by rw [he]; rfl, i0, i1⟩)
  have hP0 : Opens enc Try.prog w 75 (R2 RInt 1 RItsL) := opens_struct2 1 1 Try.underlying75 (by kernel_rfl) rfl (by kernel_rfl) rfl (by kernel_rfl) (opens_int Try.underlying3) hI
  exact opens_slice Try.underlying22 (by kernel_rfl) (by decide) (hP0.map (fun x => (⟨x.1, x.2⟩ : Pk)) fun a cs ⟨c0, c1, he, _, h0, h1⟩ => by
    obtain ⟨rfl, i0⟩ := h0
    obtain ⟨A, c, rfl, hr⟩ := h1
    exact ⟨_, by rw [he]; rfl, i0, A, c, rfl, hr⟩)
set_option maxRecDepth 100000 in
theorem open_packs {H : Type} {enc : TypeId × Value → H} {w : World} {base : Nat} {spare : Nat → Bool} {held : Bool} {b0 : Nat} {rr : Reach} {v : Value} {d : DataW H} {p : List MemPlace}
    (hv : Value.okWide Try.prog w rr b0 22 v) (h : DataW.Trod enc Try.prog w base spare held 22 v d p) (hlt : ∀ x ∈ p, x.block < w.heap.size) : ∃ xs : List Pk, RPksL w 0 w.heap.size xs [v] := by
  obtain ⟨xs, A, c, hA, hr⟩ := opens_packs.arg h hlt
  refine ⟨xs, A, c, ?_, hr⟩
  have hv1 : v.cells.toList = [.slice A xs.length c] := hA
  obtain ⟨a0, len, cap, rfl⟩ := okWide_slice Try.underlying22 hv
  exact hv1
set_option maxRecDepth 100000 in
theorem open_store {H : Type} {enc : TypeId × Value → H} {w : World} {base : Nat} {spare : Nat → Bool} {held : Bool} {b0 : Nat} {rr : Reach} {v : Value} {d : DataW H} {p : List MemPlace}
    (hv : Value.okWide Try.prog w rr b0 50 v) (h : DataW.Trod enc Try.prog w base spare held 50 v d p) (hlt : ∀ x ∈ p, x.block < w.heap.size) : ∃ s : Sto, RStore w 0 w.heap.size s v := by
  obtain ⟨cs, rfl, hsz⟩ := okWide_struct Try.underlying50 hv
  have hN : Opens enc Try.prog w 41 (RSl RInt 1) := opens_slice Try.underlying41 (by kernel_rfl) (by decide) (opens_int Try.underlying3)
  have hL0 : Opens enc Try.prog w 207 (R2 RStr 1 (RSl RInt 1)) := opens_struct2 1 1 Try.underlying207 (by kernel_rfl) rfl (by kernel_rfl) rfl (by kernel_rfl) (opens_str Try.underlying9) hN
  have hL : Opens enc Try.prog w 138 RLssL := opens_slice Try.underlying138 (by kernel_rfl) (by decide) (hL0.map (fun x => (⟨x.1, x.2⟩ : Ls)) fun a cs ⟨c0, c1, he, _, h0, h1⟩ => by
    obtain ⟨rfl, i0⟩ := h0
    obtain ⟨A, c, rfl, hr⟩ := h1
    exact ⟨_, by rw [he]; rfl, i0, A, c, rfl, hr⟩)
  have hS0 : Opens enc Try.prog w 140 (R2 RInt 1 RLssL) := opens_struct2 1 1 Try.underlying140 (by kernel_rfl) rfl (by kernel_rfl) rfl (by kernel_rfl) (opens_int Try.underlying3) hL
  have hS : Opens enc Try.prog w 47 RSnsL := opens_slice Try.underlying47 (by kernel_rfl) (by decide) (hS0.map (fun x => (⟨x.1, x.2⟩ : Sn)) fun a cs ⟨c0, c1, he, _, h0, h1⟩ => by
    obtain ⟨rfl, i0⟩ := h0
    obtain ⟨A, c, rfl, hr⟩ := h1
    exact ⟨_, by rw [he]; rfl, i0, A, c, rfl, hr⟩)
  have hH0 : Opens enc Try.prog w 143 (R2 RInt 1 RInt) := opens_struct2 1 1 Try.underlying143 (by kernel_rfl) rfl (by kernel_rfl) rfl (by kernel_rfl) (opens_int Try.underlying3) (opens_int Try.underlying3)
  have hH : Opens enc Try.prog w 48 RHdsL := opens_slice Try.underlying48 (by kernel_rfl) (by decide) (hH0.map (fun x => (⟨x.1, x.2⟩ : Hd)) fun a cs ⟨c0, c1, he, _, h0, h1⟩ => by
    obtain ⟨rfl, i0⟩ := h0
    obtain ⟨rfl, i1⟩ := h1
    exact ⟨by rw [he]; rfl, i0, i1⟩)
  have hR := opens_struct3 1 1 1 Try.underlying50 (by kernel_rfl) rfl (by kernel_rfl) rfl (by kernel_rfl) rfl (by kernel_rfl) opens_packs hS hH
  obtain ⟨⟨ps, ss, ls⟩, c0, c1, c2, hcs, _, _, ha, hb, hc⟩ := hR.arg h hlt
  obtain ⟨A, a, hA⟩ := ha
  obtain ⟨B, b, hB⟩ := hb
  obtain ⟨C, c, hC⟩ := hc
  refine ⟨⟨ps, ss, ls⟩, .slice A ps.length a, .slice B ss.length b, .slice C ls.length c, ?_, ⟨A, a, rfl, hA.2⟩, ⟨B, b, rfl, hB.2⟩, ⟨C, c, rfl, hC.2⟩⟩
  have hcs' : cs.toList = c0 ++ (c1 ++ c2) := hcs
  rw [hA.1, hB.1, hC.1] at hcs'
  have : cs = #[.slice A ps.length a, .slice B ss.length b, .slice C ls.length c] := by
    apply Array.toList_inj.1
    rw [hcs']; rfl
  rw [this]
end Go.Proofs.Ytanppokbjladfaa
