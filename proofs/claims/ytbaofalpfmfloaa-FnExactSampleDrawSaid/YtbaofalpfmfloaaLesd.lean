/- The law FnExactSampleDraw: for all three integers the program's SampleDraw returns what the reference's returns, in memory of its own. No condition. -/
import Derived.Test.YtbaofalpfmfloaaLaw
import Derived.Test.YtbaofalpfmfloaaDri
namespace Go.Proofs.Ytbaofalpfmfloaa.lawesd
open Go.RowKit Go.ChangeShapes Go.WideShapes Go.ChangeAt

theorem walk (a0 : Int) (_ : In64 a0) (a1 : Int) (_ : In64 a1) (a2 : Int) (_ : In64 a2) (w : World) :
    Calls Try.prog 9 #[.int .i64 a0, .int .i64 a1, .int .i64 a2] w fun e w' => e = .returned (.bool true) ∧ Below w.heap.size w w' := by
  have hlen := Lib.hid (sDrawAll_len a0 a1 a2)
  have h64 := Lib.hid (sDrawAll_in64 a0 a1 a2)
  have L := RSl.loc (sz := 1) RInt.loc
  have ml : ∀ n : Nat, n ≤ 20 → ∀ x ∈ marks 1 n, In64 x := by
    intro n hn x hx
    obtain ⟨i, hi⟩ := List.mem_iff_getElem?.1 hx
    have hlt := lt_of_some hi
    rw [marks_len] at hlt
    rw [marks_get 1 n i hlt] at hi
    have := Option.some.inj hi
    exact ⟨by omega, by omega⟩
  have ML := Lib.hid ml
  clear ml
  go_enter Try.func9, Try.ntmps9
  go_wp2_with fail
  refine (specDraw_any _ _ _ _).mono ?_
  rintro e w1 ⟨v1, rfl, r1, b1⟩
  go_wp2_with fail
  refine (implDraw_any _ _ _ _).mono ?_
  rintro e w2 ⟨v2, rfl, o2, b2⟩
  have b2' := below_below b1 b2
  have r1' := L.below r1 b2 (Nat.le_refl _)
  have r2 := o2.sl h64.out (Nat.le_refl _)
  go_wp2_with fail
  refine (eqIntS_any _ _ _ _ _ _ _ _ _ r2 r1').mono ?_
  rintro e w3 ⟨rfl, n3, rfl⟩
  rw [decide_eq_true (rfl : sDrawAll a0 a1 a2 = sDrawAll a0 a1 a2)]
  have b3 := below_drewN b2' n3
  have o3 := o2.drewN n3
  have r1'' := L.below r1' (below_drewN (Below.refl w2.heap.size w2) n3) b2.size
  go_wp2_with fail
  refine (markIntS_any _ _ _ _ 1 o3 (by have := hlen.out; omega) (by omega) (by omega)).mono ?_
  rintro e w4 ⟨rfl, o4, c4⟩
  have hS : ∀ i, v2.ownBlock = some i → w1.heap.size ≤ i := fun i hi => (o3.lt i hi).1
  have b4 := below_chg b3 c4 (fun i hi => Nat.le_trans b1.size (hS i hi))
  have r4 := o4.sl (ML.out _ hlen.out) (Nat.le_refl _)
  have r1w := L.chg r1'' c4 (fun b q1 q2 => ⟨Nat.lt_of_lt_of_le q2 b2.size, fun hb => by have := hS b hb; omega⟩)
  go_wp2_with fail
  refine (heldIntS_any _ _ _ _ _ 1 r4 (by have := hlen.out; omega) (by omega) (by omega)).mono ?_
  rintro e w5 ⟨rfl, rfl⟩
  have hn := hlen.out
  have t1 : ((1 : Int) + ((sDrawAll a0 a1 a2).length : Int) != 1 + ((sDrawAll a0 a1 a2).length : Int)) = false := by rw [bne_eq_false_iff_eq]
  go_wp2_with fail
  refine (implDraw_any _ _ _ _).mono ?_
  rintro e w6 ⟨v6, rfl, o6, b6⟩
  have b6' := below_below b4 b6
  have r6 := o6.sl h64.out (Nat.le_refl _)
  have r16 := L.below r1w b6 (Nat.le_trans b2.size c4.size)
  go_wp2_with fail
  refine (eqIntS_any _ _ _ _ _ _ _ _ _ r6 r16).mono ?_
  rintro e w7 ⟨rfl, n7, rfl⟩
  rw [decide_eq_true (rfl : sDrawAll a0 a1 a2 = sDrawAll a0 a1 a2)]
  have o7 := (o4.below b6).drewN n7
  have r7 := o7.sl (ML.out _ hlen.out) (Nat.le_refl _)
  go_wp2_with fail
  refine (heldIntS_any _ _ _ _ _ 1 r7 (by have := hlen.out; omega) (by omega) (by omega)).mono ?_
  rintro e w8 ⟨rfl, rfl⟩
  go_wp2_with fail
  go_ret
  exact ⟨rfl, below_drewN b6' n7⟩

set_option maxRecDepth 100000 in
theorem lifted (os : Os) (started : os.Started) (H : Type) (enc : TypeId × Value → H) :
    ReturnsInHanded {} Try.checked os 9 .any (Rows.fnExactSampleDrawSpec.pre6 enc Try.prog Try.f9 Rows.fnExactSampleDrawRow.domain false) (Rows.fnExactSampleDrawSpec.post enc Try.prog Try.f9 false true false false) := by
  refine law_lifted own started (by kernel_rfl) Try.func9 laidOut (by kernel_rfl) rfl Try.underlying4 rfl (fun ds hl => ?_)
    (ChangeSpec.witness6 (enc := enc) (C := Try.checked) false ⟨#[], #[.int .i64 0, .int .i64 0, .int .i64 0], []⟩ 8 (by kernel_rfl) (by kernel_rfl) (by kernel_rfl) (by kernel_rfl)) ?_
  · match ds, hl with
    | [_, _, _], _ => rfl
  intro W base args ds p hval0 hA hlt hsz hsh
  have hval : ∀ (j : Nat) t v, Try.f9.params[j]? = some t → args[j]? = some v → Value.okWide Try.prog W .any base t v := hval0
  rw [Try.params9] at hA hval
  obtain ⟨v0, v1, v2, d0, d1, d2, p0, p1, p2, rfl, rfl, rfl, h0, h1, h2⟩ := trodAll_three hA
  obtain ⟨a0, rfl, rfl, rfl, w0⟩ := open_int Try.underlying3 (hval 0 3 v0 rfl rfl) h0
  obtain ⟨a1, rfl, rfl, rfl, w1⟩ := open_int Try.underlying3 (hval 1 3 v1 rfl rfl) h1
  obtain ⟨a2, rfl, rfl, rfl, w2⟩ := open_int Try.underlying3 (hval 2 3 v2 rfl rfl) h2
  exact walk a0 (in64_of_wf w0) a1 (in64_of_wf w1) a2 (in64_of_wf w2) W

set_option maxRecDepth 100000 in
theorem proved : Rows.FnExactSampleDrawSaid :=
  OpenClaim.holds_of_wide 9 Try.f9 rfl rfl rfl rfl rfl rfl rfl ⟨rfl, rfl, rfl, rfl, rfl⟩ rfl rfl rfl rfl rfl (by kernel_rfl) Try.func9 (by kernel_rfl)
    (of_decide_eq_true (by kernel_rfl)) (by unfold Func.isWrapper; first | (rw [if_pos (by decide +kernel)]; kernel_rfl) | (rw [if_neg (by decide +kernel)]; exact ⟨rfl, rfl⟩))
    (fun os started H enc _ => lifted os started H enc)
#print axioms proved
end Go.Proofs.Ytbaofalpfmfloaa.lawesd
