/- The law FnFinds: what is lost is found, if it is drawn. No condition. -/
import Derived.Test.YtahdphhlmblacaaLaw
import Derived.Test.YtahdphhlmblacaaInts
import Derived.Test.YtahdphhlmblacaaDrw
namespace Go.Proofs.Ytahdphhlmblacaa.lawff
open Go.RowKit Go.ChangeShapes Go.WideShapes Go.ChangeAt

theorem meets_sym (a b : List Int) : meets b a = meets a b := by
  unfold meets
  rw [Bool.eq_iff_iff, List.any_eq_true, List.any_eq_true]
  exact ⟨fun ⟨x, h1, h2⟩ => ⟨x, of_decide_eq_true h2, decide_eq_true h1⟩, fun ⟨x, h1, h2⟩ => ⟨x, of_decide_eq_true h2, decide_eq_true h1⟩⟩
theorem meets_nil (a : List Int) : meets a [] = false := by unfold meets; simp
theorem meets_self (a : List Int) : meets a a = decide (0 < a.length) := by
  unfold meets
  rw [Bool.eq_iff_iff, List.any_eq_true, decide_eq_true_iff]
  exact ⟨fun ⟨x, h1, _⟩ => List.length_pos_of_mem h1, fun h => ⟨a[0], List.getElem_mem _, decide_eq_true (List.getElem_mem _)⟩⟩
theorem nilInts (w : World) : RSl RInt 1 w 0 0 [] [.slice none 0 0] := ⟨none, 0, rfl, Nat.le_refl _, by unfold maxLen; omega, fun h => absurd h (by simp)⟩
set_option maxHeartbeats 1000000 in
theorem walk (l : List Int) {v : Value} {w : World} (h : RSl RByte 1 w 0 w.heap.size l [v]) (w' : World) (hw : w' = w := by rfl) :
    Calls Try.prog 14 #[v] w' fun e w' => e = .returned (.bool true) ∧ Below w.heap.size w w' := by
  subst hw
  obtain ⟨A, c, rfl⟩ := h.form
  have hlen : l.length ≤ maxLen := by obtain ⟨_, h1, h2⟩ := h.len_; omega
  unfold maxLen at hlen
  by_cases hbig : 1048576 < l.length
  · go_enter Try.func14, Try.ntmps14
    go_wp2_with fail
    go_ret
    exact ⟨rfl, Below.refl _ _⟩
  go_enter Try.func14, Try.ntmps14
  go_wp2_with fail
  refine (drawFinds_any l _ _ h).mono ?_
  rintro e w1 ⟨u1, u2, xs, ys, rfl, r1, r2, b1⟩
  have L := RSl.loc (sz := 1) RInt.loc
  obtain ⟨A1, c1, rfl⟩ := r1.form
  obtain ⟨A2, c2, rfl⟩ := r2.form
  have hxl : xs.length ≤ maxLen := by obtain ⟨_, h1, h2⟩ := r1.len_; omega
  unfold maxLen at hxl
  go_wp2_with fail
  refine (implFinds_any xs ys _ _ _ _ _ _ _ r1 r2 (Nat.le_refl _) (Nat.le_refl _)).mono ?_
  rintro e w2 ⟨rfl, b2⟩
  have b2' := below_below b1 b2
  have r1' := L.below r1 b2 (Nat.le_refl _)
  have r2' := L.below r2 b2 (Nat.le_refl _)
  go_wp2_with fail
  refine (specFinds_any xs ys _ _ _ _ _ _ _ r1' r2').mono ?_
  rintro e w3 ⟨rfl, rfl⟩
  go_wp2_with fail
  go_loop [6, 7] (fun bo i => ∃ k : Nat, k ≤ xs.length ∧ i = .int .i64 k ∧ bo = .bool (meets (xs.take k) ys)) (fun _ i => xs.length - (intOf i).toNat)
  case atStart => exact ⟨0, Nat.zero_le _, rfl, rfl⟩
  case round =>
    obtain ⟨k, hk, rfl, rfl⟩ := hrel
    by_cases hlt : k < xs.length
    · obtain ⟨x, hxk⟩ := some_of_lt hlt
      obtain ⟨b, off, hA, _, _, _, hcell⟩ := r1'.ints_at hxk
      subst hA
      have hm : meets (xs.take (k + 1)) ys = (meets (xs.take k) ys || decide (x ∈ ys)) := by rw [take_succ hxk]; unfold meets; simp
      have HM := Lib.hid hm
      clear hm hxk
      cases hme : meets (xs.take k) ys
      · have HE := Lib.hid hme; clear hme
        go_wp2_with fail
        refine (ldIn_any ys x _ _ _ _ _ _ r2').mono ?_
        rintro e w4 ⟨rfl, rfl⟩
        go_wp2_with fail
        go_round
        case rel => exact ⟨k + 1, by omega, by go_num, by rw [HM.out, HE.out]; rfl⟩
        case measure => simp [intOf]; omega
      · have HE := Lib.hid hme; clear hme
        go_wp2_with fail
        go_round
        case rel => exact ⟨k + 1, by omega, by go_num, by rw [HM.out, HE.out]; rfl⟩
        case measure => simp [intOf]; omega
    · obtain rfl : k = xs.length := by omega
      rw [List.take_length]
      have q1 := Lib.hid (meets_sym xs ys)
      have q2 := Lib.hid (meets_nil xs)
      have q3 := Lib.hid (meets_self xs)
      have t1 : (meets xs ys == meets xs ys) = true := beq_self_eq_true _
      go_wp2_with fail
      refine (implFinds_any ys xs _ _ _ _ _ _ _ r2' r1' b2.size b2.size).mono ?_
      rintro e w4 ⟨rfl, b4⟩
      have b4' := below_below b2' b4
      have r12 := L.below r1' b4 b2.size
      rw [q1.out]
      go_wp2_with fail
      refine (implFinds_any xs [] _ _ _ _ _ _ _ r12 (nilInts _) (Nat.le_trans b2.size b4.size) (Nat.zero_le _)).mono ?_
      rintro e w5 ⟨rfl, b5⟩
      have b5' := below_below b4' b5
      have r13 := L.below r12 b5 (Nat.le_trans b2.size b4.size)
      rw [q2.out]
      go_wp2_with fail
      refine (implFinds_any xs xs _ _ _ _ _ _ _ r13 r13 (Nat.le_trans (Nat.le_trans b2.size b4.size) b5.size) (Nat.le_trans (Nat.le_trans b2.size b4.size) b5.size)).mono ?_
      rintro e w6 ⟨rfl, b6⟩
      have b6' := below_below b5' b6
      rw [q3.out]
      by_cases hz : 0 < xs.length
      · go_wp2_with fail
        go_ret
        exact ⟨rfl, b6'⟩
      · go_wp2_with fail
        go_ret
        exact ⟨rfl, b6'⟩

theorem lifted (os : Os) (started : os.Started) (H : Type) (enc : TypeId × Value → H) :
    ReturnsInHanded {} Try.checked os 14 .any (Rows.fnFindsSpec.pre6 enc Try.prog Try.f14 Rows.fnFindsRow.domain false) (Rows.fnFindsSpec.post enc Try.prog Try.f14 false true false false) := by
  refine law_lifted own started (by kernel_rfl) Try.func14 laidOut (by kernel_rfl) rfl Try.underlying4 rfl (fun ds hl => ?_)
    (ChangeSpec.witness6 (enc := enc) (C := Try.checked) false ⟨#[], #[.slice none 0 0], []⟩ 8 (by kernel_rfl) (by kernel_rfl) (by kernel_rfl) (by kernel_rfl)) ?_
  · match ds, hl with
    | [_], _ => rfl
  intro W base args ds p hval0 hA hlt hsz hsh
  have hval : ∀ (j : Nat) t v, Try.f14.params[j]? = some t → args[j]? = some v → Value.okWide Try.prog W .any base t v := hval0
  rw [Try.params14] at hA hval
  obtain ⟨v0, d0, rfl, rfl, h0⟩ := trodAll_one hA
  obtain ⟨a0_0, r0⟩ := open_byte_slice (hval 0 26 v0 rfl rfl) h0 (by first | exact hlt | exact fun x hx => hlt x (by simp [hx]))
  exact walk a0_0 r0 W

theorem proved : Rows.FnFindsSaid :=
  OpenClaim.holds_of_wide 14 Try.f14 rfl rfl rfl rfl rfl rfl rfl ⟨rfl, rfl, rfl, rfl, rfl⟩ rfl rfl rfl rfl rfl (by kernel_rfl) Try.func14 (by kernel_rfl)
    (of_decide_eq_true (by kernel_rfl)) (by unfold Func.isWrapper; first | (rw [if_pos (by decide +kernel)]; kernel_rfl) | (rw [if_neg (by decide +kernel)]; exact ⟨rfl, rfl⟩))
    (fun os started H enc _ => lifted os started H enc)
#print axioms proved
end Go.Proofs.Ytahdphhlmblacaa.lawff
