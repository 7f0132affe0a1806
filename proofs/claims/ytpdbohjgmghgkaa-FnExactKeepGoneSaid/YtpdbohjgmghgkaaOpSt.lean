


/- A list of snapshots, and a rule, that came in, read; a rule copied. -/
import Derived.Test.YtpdbohjgmghgkaaOpen
import Derived.Test.YtpdbohjgmghgkaaEStamp
import Derived.Test.YtpdbohjgmghgkaaMkI
import Derived.Test.YtpdbohjgmghgkaaDrK
namespace Go.Proofs.Ytpdbohjgmghgkaa
open Go.RowKit Go.ChangeShapes Go.WideShapes Go.ChangeAt

set_option maxRecDepth 100000 in
theorem open_stamps {H : Type} {enc : TypeId × Value → H} {w : World} {base : Nat} {spare : Nat → Bool} {held : Bool} {b0 : Nat} {rr : Reach} {v : Value} {d : DataW H} {p : List MemPlace}
    (hv : Value.okWide Try.prog w rr b0 78 v) (h : DataW.Trod enc Try.prog w base spare held 78 v d p) (hlt : ∀ x ∈ p, x.block < w.heap.size) : ∃ xs : List St, RSl RSt 2 w 0 w.heap.size xs [v] := by
  have hG0 : Opens enc Try.prog w 128 (R2 RInt 1 RInt) := opens_struct2 1 1 Try.underlying128 (by kernel_rfl) rfl (by kernel_rfl) rfl (by kernel_rfl) (opens_int Try.underlying3) (opens_int Try.underlying3)
  have hG : Opens enc Try.prog w 78 (RSl RSt 2) := opens_slice Try.underlying78 (by kernel_rfl) (by decide) (hG0.map (fun x => (⟨x.1, x.2⟩ : St)) fun a cs ⟨c0, c1, he, _, h0, h1⟩ => by
    obtain ⟨rfl, i0⟩ := h0
    obtain ⟨rfl, i1⟩ := h1
    exact ⟨by rw [he]; rfl, i0, i1⟩)
  obtain ⟨xs, A, c, hA, hr⟩ := hG.arg h hlt
  refine ⟨xs, A, c, ?_, hr⟩
  have hv1 : v.cells.toList = [.slice A xs.length c] := hA
  obtain ⟨a0, len, cap, rfl⟩ := okWide_slice Try.underlying78 hv
  exact hv1
/-- A rule. -/
def RRule (r : Int × Int × Int) (v : Value) : Prop := v = .agg #[.int .i64 r.1, .int .i64 r.2.1, .int .i64 r.2.2] ∧ In64 r.1 ∧ In64 r.2.1 ∧ In64 r.2.2
set_option maxRecDepth 100000 in
theorem open_rule {H : Type} {enc : TypeId × Value → H} {w : World} {base : Nat} {spare : Nat → Bool} {held : Bool} {b0 : Nat} {rr : Reach} {v : Value} {d : DataW H} {p : List MemPlace}
    (hv : Value.okWide Try.prog w rr b0 79 v) (h : DataW.Trod enc Try.prog w base spare held 79 v d p) (hlt : ∀ x ∈ p, x.block < w.heap.size) : ∃ r : Int × Int × Int, RRule r v := by
  obtain ⟨cs, rfl, hsz⟩ := okWide_struct Try.underlying79 hv
  have hR : Opens enc Try.prog w 79 (R3 RInt 1 RInt 1 RInt) := opens_struct3 1 1 1 Try.underlying79 (by kernel_rfl) rfl (by kernel_rfl) rfl (by kernel_rfl) rfl (by kernel_rfl) (opens_int Try.underlying3) (opens_int Try.underlying3) (opens_int Try.underlying3)
  obtain ⟨⟨a, b, c⟩, c0, c1, c2, hcs, _, _, h0, h1, h2⟩ := hR.arg h hlt
  obtain ⟨rfl, i0⟩ := h0
  obtain ⟨rfl, i1⟩ := h1
  obtain ⟨rfl, i2⟩ := h2
  refine ⟨⟨a, b, c⟩, ?_, i0, i1, i2⟩
  have hcs' : cs.toList = [.int .i64 a, .int .i64 b, .int .i64 c] := hcs
  have : cs = #[.int .i64 a, .int .i64 b, .int .i64 c] := by
    apply Array.toList_inj.1
    rw [hcs']
  rw [this]
theorem toRule_any (a b c : Int) (w : World) : Calls Try.prog 53 #[.agg #[.int .i64 a, .int .i64 b, .int .i64 c]] w fun e w' => e = .returned (.agg #[.int .i64 a, .int .i64 b, .int .i64 c]) ∧ Below w.heap.size w w' := by
  go_enter Try.func53, Try.ntmps53
  go_wp2_with fail
  exact bodyPost_ret (v := .agg #[.int .i64 a, .int .i64 b, .int .i64 c]) (by simp [results, Try.results53, go_sem]) rfl ⟨rfl, by repeat (first | exact Below.refl _ _ | refine Below.setCell ?_ (by first | (simp; done) | (simp; omega)) _ | refine Below.alloc ?_ (by first | (simp; done) | (simp; omega)) _)⟩
end Go.Proofs.Ytpdbohjgmghgkaa
