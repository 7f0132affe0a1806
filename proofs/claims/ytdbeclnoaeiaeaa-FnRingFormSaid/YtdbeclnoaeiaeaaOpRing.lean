


/- A ring that came in, read. -/
import Derived.Test.YtdbeclnoaeiaeaaOpen
import Derived.Test.YtdbeclnoaeiaeaaERing
namespace Go.Proofs.Ytdbeclnoaeiaeaa
open Go.RowKit Go.ChangeShapes Go.WideShapes Go.ChangeAt

def RRing (w : World) (lo hi : Nat) (r : Rg) (v : Value) : Prop := ∃ va vb, v = .agg #[va, vb] ∧ RSl RInt 1 w lo hi r.keys [va] ∧ RSl RGr 3 w lo hi r.grs [vb]
structure RgGood (r : Rg) : Prop where
  keys : ∀ x ∈ r.keys, In64 x
  grs : ∀ g ∈ r.grs, FGr.good g
theorem OwnRg.reads {w : World} {base : Nat} {va vb : Value} {r : Rg} (h : OwnRg w base va vb r) (hg : RgGood r) : RSl RInt 1 w base w.heap.size r.keys [va] ∧ RSl RGr 3 w base w.heap.size r.grs [vb] :=
  ⟨h.keys.sl hg.keys (Nat.le_refl _), h.grs.sl hg.grs (Nat.le_refl _)⟩
theorem rg_good {w : World} {lo hi : Nat} {r : Rg} {va vb : Value} (ha : RSl RInt 1 w lo hi r.keys [va]) (hb : RSl RGr 3 w lo hi r.grs [vb]) : RgGood r := ⟨ha.in64, RSl.good (F := FGr) hb⟩
theorem OwnRg.chg {w w' : World} {base : Nat} {va vb : Value} {r : Rg} {S : Nat → Prop} (h : OwnRg w base va vb r) (hc : Chg S w w') (hS : ∀ b, va.ownBlock = some b ∨ vb.ownBlock = some b → ¬ S b) : OwnRg w' base va vb r :=
  ⟨h.keys.chg hc fun b hb => hS b (.inl hb), h.grs.chg hc fun b hb => hS b (.inr hb)⟩
theorem OwnRg.at_ {w : World} {base : Nat} {va vb : Value} {r : Rg} (h : OwnRg w base va vb r) : ∀ b, va.ownBlock = some b ∨ vb.ownBlock = some b → base ≤ b ∧ b < w.heap.size := by
  rintro b (hb | hb)
  · exact h.keys.at_ hb
  · exact h.grs.at_ hb
theorem OwnRg.apart {w : World} {base : Nat} {va vb : Value} {r : Rg} (h : OwnRg w base va vb r) : ∀ b, va.ownBlock = some b → vb.ownBlock ≠ some b := own_apart h.keys h.grs (by decide)
theorem MarksRg.below {r : Rg} {va vb : Value} {base : Nat} {w w' : World} (h : MarksRg r va vb base w) (hb : Below w.heap.size w w') : MarksRg r va vb base w' := ⟨own_below' h.1 hb, own_below' h.2 hb⟩
theorem bool_of (p : Prop) : ∃ b : Bool, b = true ↔ p := by
  by_cases h : p
  · exact ⟨true, by simp [h]⟩
  · exact ⟨false, by simp [h]⟩
set_option maxRecDepth 100000 in
theorem open_ring {H : Type} {enc : TypeId × Value → H} {w : World} {base : Nat} {spare : Nat → Bool} {held : Bool} {b0 : Nat} {rr : Reach} {v : Value} {d : DataW H} {p : List MemPlace}
    (hv : Value.okWide Try.prog w rr b0 25 v) (h : DataW.Trod enc Try.prog w base spare held 25 v d p) (hlt : ∀ x ∈ p, x.block < w.heap.size) : ∃ r : Rg, RRing w 0 w.heap.size r v := by
  obtain ⟨cs, rfl, hsz⟩ := okWide_struct Try.underlying25 hv
  have hI : Opens enc Try.prog w 22 (RSl RInt 1) := opens_slice Try.underlying22 (by kernel_rfl) (by decide) (opens_int Try.underlying3)
  have hG0 : Opens enc Try.prog w 87 (R3 RInt 1 RInt 1 RInt) := opens_struct3 1 1 1 Try.underlying87 (by kernel_rfl) rfl (by kernel_rfl) rfl (by kernel_rfl) rfl (by kernel_rfl) (opens_int Try.underlying3) (opens_int Try.underlying3) (opens_int Try.underlying3)
  have hG : Opens enc Try.prog w 23 (RSl RGr 3) := opens_slice Try.underlying23 (by kernel_rfl) (by decide) (hG0.map (fun x => (⟨x.1, x.2.1, x.2.2⟩ : Gr)) fun a cs ⟨c0, c1, c2, he, _, _, h0, h1, h2⟩ => by
    obtain ⟨rfl, i0⟩ := h0
    obtain ⟨rfl, i1⟩ := h1
    obtain ⟨rfl, i2⟩ := h2
    exact ⟨by rw [he]; rfl, i0, i1, i2⟩)
  have hR := opens_struct2 1 1 Try.underlying25 (by kernel_rfl) rfl (by kernel_rfl) rfl (by kernel_rfl) hI hG
  obtain ⟨⟨ks, gs⟩, c0, c1, hcs, hl, ha, hb⟩ := hR.arg h hlt
  obtain ⟨A, c, hA⟩ := ha
  obtain ⟨B, e, hB⟩ := hb
  refine ⟨⟨ks, gs⟩, .slice A ks.length c, .slice B gs.length e, ?_, ?_, ?_⟩
  · have hcs' : cs.toList = c0 ++ c1 := hcs
    rw [hA.1, hB.1] at hcs'
    have : cs = #[.slice A ks.length c, .slice B gs.length e] := by
      apply Array.toList_inj.1
      rw [hcs']; rfl
    rw [this]
  · exact ⟨A, c, rfl, hA.2⟩
  · exact ⟨B, e, rfl, hB.2⟩
end Go.Proofs.Ytdbeclnoaeiaeaa
