/- The law FnSampleSure: who draws more than are not lost finds some. No condition. -/
import Derived.Test.YtbaofalpfmfloaaLaw
import Derived.Test.YtbaofalpfmfloaaDri
namespace Go.Proofs.Ytbaofalpfmfloaa.lawssu
open Go.RowKit Go.ChangeShapes Go.WideShapes Go.ChangeAt

set_option maxHeartbeats 1000000 in
theorem walk (l : List Int) {v : Value} {w : World} (h : RSl RByte 1 w 0 w.heap.size l [v]) (l2 : List Int) {v2 : Value} (h2 : RSl RByte 1 w 0 w.heap.size l2 [v2]) (w' : World) (hw : w' = w := by rfl) :
    Calls Try.prog 12 #[v, v2] w' fun e w' => e = .returned (.bool true) ∧ Below w.heap.size w w' := by
  subst hw
  obtain ⟨A, c, rfl⟩ := h.form
  obtain ⟨A2, c2, rfl⟩ := h2.form
  have hlen : l.length ≤ maxLen := by obtain ⟨_, h1, h2⟩ := h.len_; omega
  have hlen2 : l2.length ≤ maxLen := by obtain ⟨_, h1, h2⟩ := h2.len_; omega
  unfold maxLen at hlen hlen2
  by_cases hbig : 1048576 < l.length
  · go_enter Try.func12, Try.ntmps12
    go_wp2_with fail
    go_ret
    exact ⟨rfl, Below.refl _ _⟩
  by_cases hbig2 : 1048576 < l2.length
  · go_enter Try.func12, Try.ntmps12
    go_wp2_with fail
    go_ret
    exact ⟨rfl, Below.refl _ _⟩
  go_enter Try.func12, Try.ntmps12
  go_wp2_with fail
  refine (drawDraw_any l _ _ h).mono ?_
  rintro e w1 ⟨s, m, d, rfl, ⟨hs1, hs2⟩, ⟨hm1, hm2⟩, ⟨hd1, hd2⟩, b1⟩
  have L := RSl.loc (sz := 1) RInt.loc
  have hlen := Lib.hid (sDrawAll_len s m d)
  have h64 := Lib.hid (sDrawAll_in64 s m d)
  go_wp2_with fail
  refine (implDraw_any _ _ _ _).mono ?_
  rintro e w2 ⟨v2, rfl, o2, b2⟩
  have b2' := below_below b1 b2
  have r2 := o2.sl h64.out (Nat.le_refl _)
  go_wp2_with fail
  refine (specDraw_any _ _ _ _).mono ?_
  rintro e w3 ⟨v3, rfl, r3, b3⟩
  have b3' := below_below b2' b3
  have r23 := L.below r2 b3 (Nat.le_refl _)
  go_wp2_with fail
  refine (ldInts_any _ _ _ _ _ _ _ _ _ r23 r3).mono ?_
  rintro e w4 ⟨rfl, n4, rfl⟩
  rw [decide_eq_true (rfl : sDrawAll s m d = sDrawAll s m d)]
  have b4 := below_drewN b3' n4
  have r4 := L.below r23 (below_drewN (Below.refl w3.heap.size w3) n4) b3.size
  by_cases h0 : (sDrawAll s m d).length = 0
  · have t1 : (((sDrawAll s m d).length : Int) == 0) = true := beq_iff_eq.2 (by omega)
    have H0 := Lib.hid h0
    clear h0
    obtain ⟨A3, c3, rfl⟩ := r4.form
    go_wp2_with fail
    refine (specDraw_any _ _ _ _).mono ?_
    rintro e w5 ⟨v5, rfl, r5, b5⟩
    have r45 := L.below r4 b5 b3.size
    go_wp2_with fail
    refine (ldInts_any _ _ _ _ _ _ _ _ _ r45 r5).mono ?_
    rintro e w6 ⟨rfl, n6, rfl⟩
    rw [decide_eq_true (rfl : sDrawAll s m d = sDrawAll s m d)]
    go_wp2_with fail
    go_ret
    exact ⟨rfl, below_drewN (below_below b4 b5) n6⟩
  · have hv : 0 ≤ s ∧ s ≤ 999 ∧ 0 ≤ m ∧ m ≤ 20 ∧ 0 ≤ d ∧ d ≤ m := by
      refine Classical.byContradiction fun hv => h0 ?_
      rw [sDrawAll_no s m d hv]; rfl
    obtain ⟨g1, g2, g3, g4, g5, g6⟩ := hv
    have hyes := sDrawAll_yes s m d ⟨g1, g2, g3, g4, g5, g6⟩
    have hd0 : 1 ≤ d := by
      rcases Int.lt_or_le 0 d with h | h
      · exact h
      · have : (sDrawAll s m d).length = d.toNat := by rw [hyes]; exact sDraw_len' _ _ _ (by omega)
        omega
    have hp1 : 0 ≤ (l2.length : Int) % 1000 := by omega
    have hp2 : (l2.length : Int) % 1000 ≤ 999 := by omega
    generalize hx : (l2.length : Int) % 1000 = x at hp1 hp2
    have hyes2 := sDrawAll_yes x m (m - d + 1) ⟨hp1, hp2, g3, g4, by omega, by omega⟩
    have hmeet : meets (sDrawAll s m d) (sDrawAll x m (m - d + 1)) = true := by
      rw [hyes, hyes2]
      obtain ⟨y, hy1, hy2⟩ := draws_meet s x m.toNat d.toNat (m - d + 1).toNat (by omega) (by omega) (by omega)
      exact List.any_eq_true.2 ⟨y, hy1, decide_eq_true hy2⟩
    have t1 : (((sDrawAll s m d).length : Int) == 0) = false := beq_eq_false_iff_ne.2 (by omega)
    have HM := Lib.hid hmeet
    have h64b := Lib.hid (sDrawAll_in64 x m (m - d + 1))
    clear hmeet hyes hyes2
    obtain ⟨A3, c3, rfl⟩ := r4.form
    go_wp2_with fail
    refine (implDraw_any _ _ _ _).mono ?_
    rintro e w5 ⟨v5, rfl, o5, b5⟩
    have b5' := below_below b4 b5
    have r45 := L.below r4 b5 b3.size
    have r5 := o5.sl h64b.out (Nat.le_refl _)
    go_wp2_with fail
    refine (implFinds_any _ _ _ _ _ _ _ _ _ r45 r5 (Nat.le_trans b3.size b5.size) (Nat.le_refl _)).mono ?_
    rintro e w6 ⟨rfl, b6⟩
    rw [HM.out]
    go_wp2_with fail
    go_ret
    exact ⟨rfl, below_below b5' b6⟩

set_option maxRecDepth 100000 in
theorem lifted (os : Os) (started : os.Started) (H : Type) (enc : TypeId × Value → H) :
    ReturnsInHanded {} Try.checked os 12 .any (Rows.fnSampleSureSpec.pre6 enc Try.prog Try.f12 Rows.fnSampleSureRow.domain false) (Rows.fnSampleSureSpec.post enc Try.prog Try.f12 false true false false) := by
  refine law_lifted own started (by kernel_rfl) Try.func12 laidOut (by kernel_rfl) rfl Try.underlying4 rfl (fun ds hl => ?_)
    (ChangeSpec.witness6 (enc := enc) (C := Try.checked) false ⟨#[], #[.slice none 0 0, .slice none 0 0], []⟩ 8 (by kernel_rfl) (by kernel_rfl) (by kernel_rfl) (by kernel_rfl)) ?_
  · match ds, hl with
    | [_, _], _ => rfl
  intro W base args ds p hval0 hA hlt hsz hsh
  have hval : ∀ (j : Nat) t v, Try.f12.params[j]? = some t → args[j]? = some v → Value.okWide Try.prog W .any base t v := hval0
  rw [Try.params12] at hA hval
  obtain ⟨v0, v1, d0, d1, p0, p1, rfl, rfl, rfl, h0, h1⟩ := trodAll_two hA
  obtain ⟨a0_0, r0⟩ := open_byte_slice (hval 0 30 v0 rfl rfl) h0 (by first | exact hlt | exact fun x hx => hlt x (by simp [hx]))
  obtain ⟨a1_0, r1⟩ := open_byte_slice (hval 1 30 v1 rfl rfl) h1 (by first | exact hlt | exact fun x hx => hlt x (by simp [hx]))
  exact walk a0_0 r0 a1_0 r1 W

set_option maxRecDepth 100000 in
theorem proved : Rows.FnSampleSureSaid :=
  OpenClaim.holds_of_wide 12 Try.f12 rfl rfl rfl rfl rfl rfl rfl ⟨rfl, rfl, rfl, rfl, rfl⟩ rfl rfl rfl rfl rfl (by kernel_rfl) Try.func12 (by kernel_rfl)
    (of_decide_eq_true (by kernel_rfl)) (by unfold Func.isWrapper; first | (rw [if_pos (by decide +kernel)]; kernel_rfl) | (rw [if_neg (by decide +kernel)]; exact ⟨rfl, rfl⟩))
    (fun os started H enc _ => lifted os started H enc)
#print axioms proved
end Go.Proofs.Ytbaofalpfmfloaa.lawssu
