/- The law FnSampleMore: who draws one more draws all that was drawn. No condition. -/
import Derived.Test.YtbaofalpfmfloaaLaw
import Derived.Test.YtbaofalpfmfloaaDri
namespace Go.Proofs.Ytbaofalpfmfloaa.lawsmo
open Go.RowKit Go.ChangeShapes Go.WideShapes Go.ChangeAt

set_option maxHeartbeats 1000000 in
theorem walk (l : List Int) {v : Value} {w : World} (h : RSl RByte 1 w 0 w.heap.size l [v]) (w' : World) (hw : w' = w := by rfl) :
    Calls Try.prog 11 #[v] w' fun e w' => e = .returned (.bool true) ∧ Below w.heap.size w w' := by
  subst hw
  obtain ⟨A, c, rfl⟩ := h.form
  have hlen : l.length ≤ maxLen := by obtain ⟨_, h1, h2⟩ := h.len_; omega
  unfold maxLen at hlen
  by_cases hbig : 1048576 < l.length
  · go_enter Try.func11, Try.ntmps11
    go_wp2_with fail
    go_ret
    exact ⟨rfl, Below.refl _ _⟩
  go_enter Try.func11, Try.ntmps11
  go_wp2_with fail
  refine (drawDraw_any l _ _ h).mono ?_
  rintro e w1 ⟨s, m, d, rfl, ⟨hs1, hs2⟩, ⟨hm1, hm2⟩, ⟨hd1, hd2⟩, b1⟩
  have L := RSl.loc (sz := 1) RInt.loc
  have hlen := Lib.hid (sDrawAll_len s m d)
  have h64 := Lib.hid (sDrawAll_in64 s m d)
  go_wp2_with fail
  refine (implDraw_any _ _ _ _).mono ?_
  rintro e w2 ⟨v2, rfl, o2, b2⟩
  have b2' := below_below b1 b2
  have r2 := o2.sl h64.out (Nat.le_refl _)
  go_wp2_with fail
  refine (specDraw_any _ _ _ _).mono ?_
  rintro e w3 ⟨v3, rfl, r3, b3⟩
  have b3' := below_below b2' b3
  have r23 := L.below r2 b3 (Nat.le_refl _)
  go_wp2_with fail
  refine (ldInts_any _ _ _ _ _ _ _ _ _ r23 r3).mono ?_
  rintro e w4 ⟨rfl, n4, rfl⟩
  rw [decide_eq_true (rfl : sDrawAll s m d = sDrawAll s m d)]
  have b4 := below_drewN b3' n4
  have r4 := L.below r23 (below_drewN (Below.refl w3.heap.size w3) n4) b3.size
  by_cases hg : s ≤ 999 ∧ m ≤ 20 ∧ d < m
  · obtain ⟨g2, g4, g6⟩ := hg
    have hyes := sDrawAll_yes s m d ⟨hs1, g2, hm1, g4, hd1, by omega⟩
    have hyes2 := sDrawAll_yes s m (d + 1) ⟨hs1, g2, hm1, g4, by omega, by omega⟩
    have hyes3 := sDrawAll_yes s m m ⟨hs1, g2, hm1, g4, hm1, Int.le_refl _⟩
    have hsub : ∀ x ∈ sDrawAll s m d, x ∈ sDrawAll s m (d + 1) := by
      rw [hyes, hyes2, show (d + 1).toNat = d.toNat + 1 from by omega]
      exact sDraw_sub s m.toNat d.toNat
    have hl1 : ((sDrawAll s m (d + 1)).length : Int) = d + 1 := by rw [hyes2, sDraw_len' _ _ _ (by omega)]; omega
    have hl2 : ((sDrawAll s m m).length : Int) = m := by rw [hyes3, sDraw_len' _ _ _ (by omega)]; omega
    have HS := Lib.hid hsub
    have t1 : (((sDrawAll s m (d + 1)).length : Int) == d + 1) = true := beq_iff_eq.2 hl1
    have t2 : (((sDrawAll s m m).length : Int) == m) = true := beq_iff_eq.2 hl2
    have hl20 := hlen.out
    have h64b := Lib.hid (sDrawAll_in64 s m (d + 1))
    have h64c := Lib.hid (sDrawAll_in64 s m m)
    clear hsub hyes hyes2 hyes3 hl1 hl2
    go_wp2_with fail
    refine (implDraw_any _ _ _ _).mono ?_
    rintro e w5 ⟨v5, rfl, o5, b5⟩
    have b5' := below_below b4 b5
    have r45 := L.below r4 b5 b3.size
    have r5 := o5.sl h64b.out (Nat.le_refl _)
    obtain ⟨A2, c2, rfl⟩ := r45.form
    obtain ⟨A5, c5, rfl⟩ := r5.form
    go_wp2_with fail
    go_loop [8] (fun i => ∃ k : Nat, k ≤ (sDrawAll s m d).length ∧ i = .int .i64 k) (fun i => (sDrawAll s m d).length - (intOf i).toNat)
    case atStart => exact ⟨0, Nat.zero_le _, rfl⟩
    case round =>
      obtain ⟨k, hk, rfl⟩ := hrel
      by_cases hlt : k < (sDrawAll s m d).length
      · obtain ⟨x, hxk⟩ := some_of_lt hlt
        obtain ⟨b, off, hA, _, _, _, hcell⟩ := r45.ints_at hxk
        subst hA
        have t3 : decide (x ∈ sDrawAll s m (d + 1)) = true := decide_eq_true (HS.out x (List.mem_of_getElem? hxk))
        clear hxk
        go_wp2_with fail
        refine (ldIn_any _ x _ _ _ _ _ _ r5).mono ?_
        rintro e w6 ⟨rfl, rfl⟩
        go_wp2_with fail
        go_round
        case rel => first | exact ⟨k + 1, by omega, by go_num⟩ | ((repeat apply Exists.intro); refine ⟨?_, rfl⟩; exact ⟨k + 1, by omega, by go_num⟩)
        case measure => simp [intOf]; omega
      · obtain rfl : k = (sDrawAll s m d).length := by omega
        go_wp2_with fail
        refine (implDraw_any _ _ _ _).mono ?_
        rintro e w6 ⟨v6, rfl, o6, b6⟩
        have r6 := o6.sl h64c.out (Nat.le_refl _)
        obtain ⟨A6, c6, rfl⟩ := r6.form
        go_wp2_with fail
        go_ret
        exact ⟨rfl, below_below b5' b6⟩
  · rcases (by omega : 999 < s ∨ (s ≤ 999 ∧ 20 < m) ∨ ((s ≤ 999 ∧ m ≤ 20) ∧ m ≤ d)) with g | g | g
    all_goals
      go_wp2_with fail
      refine (specDraw_any _ _ _ _).mono ?_
      rintro e w5 ⟨v5, rfl, r5, b5⟩
      have r45 := L.below r4 b5 b3.size
      go_wp2_with fail
      refine (ldInts_any _ _ _ _ _ _ _ _ _ r45 r5).mono ?_
      rintro e w6 ⟨rfl, n6, rfl⟩
      rw [decide_eq_true (rfl : sDrawAll s m d = sDrawAll s m d)]
      go_wp2_with fail
      go_ret
      exact ⟨rfl, below_drewN (below_below b4 b5) n6⟩

set_option maxRecDepth 100000 in
theorem lifted (os : Os) (started : os.Started) (H : Type) (enc : TypeId × Value → H) :
    ReturnsInHanded {} Try.checked os 11 .any (Rows.fnSampleMoreSpec.pre6 enc Try.prog Try.f11 Rows.fnSampleMoreRow.domain false) (Rows.fnSampleMoreSpec.post enc Try.prog Try.f11 false true false false) := by
  refine law_lifted own started (by kernel_rfl) Try.func11 laidOut (by kernel_rfl) rfl Try.underlying4 rfl (fun ds hl => ?_)
    (ChangeSpec.witness6 (enc := enc) (C := Try.checked) false ⟨#[], #[.slice none 0 0], []⟩ 8 (by kernel_rfl) (by kernel_rfl) (by kernel_rfl) (by kernel_rfl)) ?_
  · match ds, hl with
    | [_], _ => rfl
  intro W base args ds p hval0 hA hlt hsz hsh
  have hval : ∀ (j : Nat) t v, Try.f11.params[j]? = some t → args[j]? = some v → Value.okWide Try.prog W .any base t v := hval0
  rw [Try.params11] at hA hval
  obtain ⟨v0, d0, rfl, rfl, h0⟩ := trodAll_one hA
  obtain ⟨a0_0, r0⟩ := open_byte_slice (hval 0 30 v0 rfl rfl) h0 (by first | exact hlt | exact fun x hx => hlt x (by simp [hx]))
  exact walk a0_0 r0 W

set_option maxRecDepth 100000 in
theorem proved : Rows.FnSampleMoreSaid :=
  OpenClaim.holds_of_wide 11 Try.f11 rfl rfl rfl rfl rfl rfl rfl ⟨rfl, rfl, rfl, rfl, rfl⟩ rfl rfl rfl rfl rfl (by kernel_rfl) Try.func11 (by kernel_rfl)
    (of_decide_eq_true (by kernel_rfl)) (by unfold Func.isWrapper; first | (rw [if_pos (by decide +kernel)]; kernel_rfl) | (rw [if_neg (by decide +kernel)]; exact ⟨rfl, rfl⟩))
    (fun os started H enc _ => lifted os started H enc)
#print axioms proved
end Go.Proofs.Ytbaofalpfmfloaa.lawsmo
