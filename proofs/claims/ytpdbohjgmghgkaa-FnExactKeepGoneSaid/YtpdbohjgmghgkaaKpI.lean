


/- What is kept by one part of a rule, by the program. -/
import Derived.Test.YtpdbohjgmghgkaaKpP
namespace Go.Proofs.Ytpdbohjgmghgkaa
open Go.RowKit

theorem sn_len (l : List St) (is : List Nat) : (sn l is).length = is.length := List.length_map ..
theorem sn_in64 {l : List St} (h : ∀ x ∈ l, In64 x.s) (is : List Nat) : ∀ y ∈ sn l is, In64 y := fun y hy => by
  obtain ⟨i, _, rfl⟩ := List.mem_map.1 hy
  unfold snapAt
  cases hi : l[i]? with
  | none => show In64 0; unfold In64; omega
  | some x => exact h x (List.mem_of_getElem? hi)
theorem stA.in64 {l : List St} (h : stA l) : ∀ x ∈ l, In64 x.s := fun x hx => by have := (h.1 x hx).1; unfold In64; omega
/-- What KeepLast and KeepDays give. -/
def KPart (l : List St) (span m : Int) (r : List Int) : Prop := (stP l ∧ r = sn l (kD l span m)) ∨ (¬ stP l ∧ r = [])
theorem KPart_total (l : List St) (span m : Int) : ∃ r, KPart l span m r := by
  by_cases h : stP l
  · exact ⟨_, .inl ⟨h, rfl⟩⟩
  · exact ⟨_, .inr ⟨h, rfl⟩⟩
theorem sn_last (l : List St) (span m : Int) : lastN m (sn l (ids l span l.length)) = sn l (kD l span m) := by
  unfold sn kD
  rw [lastN_map]
set_option maxHeartbeats 2000000 in
theorem implKeepLast_any (xs : List St) (m : Int) (hm : In64 m) (v : Value) (w : World) (lo hi : Nat) (hhi : hi ≤ w.heap.size) (h : RSl RSt 2 w lo hi xs [v]) (r : List Int) (hr : KPart xs 0 m r) :
    Calls Try.prog 49 #[v, .int .i64 m] w (NewIs w r) := by
  obtain ⟨A, c, rfl⟩ := h.form
  obtain ⟨_, hc, hx⟩ := h.len_
  unfold maxLen at hx
  go_enter Try.func49, Try.ntmps49
  by_cases p1 : stP xs
  · obtain rfl : r = sn xs (kD xs 0 m) := by
      rcases hr with ⟨_, h⟩ | ⟨h, _⟩
      · exact h
      · exact absurd p1 h
    have H1 := Lib.hid p1; clear p1 hr
    go_wp2_with fail
    refine (implStampsOk_any xs _ _ _ _ hhi h true (by simp only [true_iff]; exact H1.out)).mono ?_
    rintro e w1 ⟨rfl, b1⟩
    go_wp2_with fail
    refine (periods_any xs 0 (.inl rfl) _ w1 _ _ (Nat.le_trans hhi b1.size) (sl_keep RSt.loc h b1 hhi) H1.out).mono ?_
    rintro e w2 ⟨v2, rfl, o2, b2⟩
    obtain ⟨A2, c2, rfl⟩ := o2.form
    have hl2 : (sn xs (ids xs 0 xs.length)).length ≤ 12 := by
      rw [sn_len]
      have := ids_len xs 0 xs.length
      have := H1.out.2
      omega
    have q2 := o2.sl (sn_in64 H1.out.1.in64 _) (Nat.le_refl _)
    have hle := sn_last xs 0 m
    have HE := Lib.hid hle; clear hle
    generalize sn xs (ids xs 0 xs.length) = ys at *
    go_wp2_with fail
    refine (lastOf_any ys m _ w2 _ _ (Nat.le_refl _) q2 hl2 hm).mono ?_
    rintro e w3 ⟨v3, rfl, o3, b3⟩
    rw [HE.out] at o3
    obtain ⟨A3, c3, rfl⟩ := o3.form
    go_wp2_with fail
    go_ret
    exact ⟨_, rfl, o3.base (Nat.le_trans b1.size b2.size), (b1.trans (b2.mono b1.size)).trans (b3.mono (Nat.le_trans b1.size b2.size))⟩
  · obtain rfl : r = [] := by
      rcases hr with ⟨h, _⟩ | ⟨_, h⟩
      · exact absurd h p1
      · exact h
    have H1 := Lib.hid p1; clear p1 hr
    go_wp2_with fail
    refine (implStampsOk_any xs _ _ _ _ hhi h false (by simp only [Bool.false_eq_true, false_iff]; exact H1.out)).mono ?_
    rintro e w1 ⟨rfl, b1⟩
    go_wp2_with fail
    go_ret
    exact ⟨_, rfl, OwnF.nil _ _ _, b1⟩
set_option maxHeartbeats 2000000 in
theorem implKeepDays_any (xs : List St) (span m : Int) (h7 : span = 1 ∨ span = 7) (hm : In64 m) (v : Value) (w : World) (lo hi : Nat) (hhi : hi ≤ w.heap.size) (h : RSl RSt 2 w lo hi xs [v]) (r : List Int) (hr : KPart xs span m r) :
    Calls Try.prog 50 #[v, .int .i64 span, .int .i64 m] w (NewIs w r) := by
  obtain ⟨A, c, rfl⟩ := h.form
  obtain ⟨_, hc, hx⟩ := h.len_
  unfold maxLen at hx
  go_enter Try.func50, Try.ntmps50
  by_cases p1 : stP xs
  · obtain rfl : r = sn xs (kD xs span m) := by
      rcases hr with ⟨_, h⟩ | ⟨h, _⟩
      · exact h
      · exact absurd p1 h
    have H1 := Lib.hid p1; clear p1 hr
    have H7 := Lib.hid h7
    have t1 : decide (span < 1) = false := decide_eq_false (by omega)
    clear h7
    go_wp2_with fail
    refine (implStampsOk_any xs _ _ _ _ hhi h true (by simp only [true_iff]; exact H1.out)).mono ?_
    rintro e w1 ⟨rfl, b1⟩
    go_wp2_with fail
    refine (periods_any xs span (.inr H7.out) _ w1 _ _ (Nat.le_trans hhi b1.size) (sl_keep RSt.loc h b1 hhi) H1.out).mono ?_
    rintro e w2 ⟨v2, rfl, o2, b2⟩
    obtain ⟨A2, c2, rfl⟩ := o2.form
    have hl2 : (sn xs (ids xs span xs.length)).length ≤ 12 := by
      rw [sn_len]
      have := ids_len xs span xs.length
      have := H1.out.2
      omega
    have q2 := o2.sl (sn_in64 H1.out.1.in64 _) (Nat.le_refl _)
    have hle := sn_last xs span m
    have HE := Lib.hid hle; clear hle
    generalize sn xs (ids xs span xs.length) = ys at *
    go_wp2_with fail
    refine (lastOf_any ys m _ w2 _ _ (Nat.le_refl _) q2 hl2 hm).mono ?_
    rintro e w3 ⟨v3, rfl, o3, b3⟩
    rw [HE.out] at o3
    obtain ⟨A3, c3, rfl⟩ := o3.form
    go_wp2_with fail
    go_ret
    exact ⟨_, rfl, o3.base (Nat.le_trans b1.size b2.size), (b1.trans (b2.mono b1.size)).trans (b3.mono (Nat.le_trans b1.size b2.size))⟩
  · obtain rfl : r = [] := by
      rcases hr with ⟨h, _⟩ | ⟨_, h⟩
      · exact absurd h p1
      · exact h
    have H1 := Lib.hid p1; clear p1 hr
    go_wp2_with fail
    refine (implStampsOk_any xs _ _ _ _ hhi h false (by simp only [Bool.false_eq_true, false_iff]; exact H1.out)).mono ?_
    rintro e w1 ⟨rfl, b1⟩
    go_wp2_with fail
    go_ret
    exact ⟨_, rfl, OwnF.nil _ _ _, b1⟩
end Go.Proofs.Ytpdbohjgmghgkaa
