


/- The reference's functions on texts and paths. -/
import Derived.Test.YtpdkgpbfmpekgaaIn6
import Derived.Test.YtpdkgpbfmpekgaaStrS
import Derived.Test.YtpdkgpbfmpekgaaPast
namespace Go.Proofs.Ytpdkgpbfmpekgaa
open Go.RowKit

/-- True only where p holds. -/
def BoolIf (p : Prop) (e : Ending) : Prop := (e = .returned (.bool true) ∧ p) ∨ e = .returned (.bool false)
theorem BoolIf.of {q : Bool} {p : Prop} (h : q = true → p) : BoolIf p (.returned (.bool q)) := by
  cases q
  · exact .inr rfl
  · exact .inl ⟨rfl, h rfl⟩
/-- A letter that a path is made of. -/
def nm (b : Nat) : Bool := decide (97 ≤ b) && decide (b ≤ 101)
def pathB (s : ByteArray) : Bool := if h : s.size = 1 then nm (s[0]'(by omega)).toNat else if h : s.size = 3 then nm (s[0]'(by omega)).toNat && (decide ((s[1]'(by omega)).toNat = 47) && nm (s[2]'(by omega)).toNat) else false
def textB (s : ByteArray) : Bool := decide (s.size ≤ 40) && (bs s).all isL
theorem pathB_size {s : ByteArray} (h : pathB s = true) : s.size = 1 ∨ s.size = 3 := by
  unfold pathB at h
  split at h
  · exact .inl (by assumption)
  · split at h
    · exact .inr (by assumption)
    · cases h
theorem l11Name_any (b : Nat) (w : World) :
    Calls Try.prog 76 #[.int .u8 b] w fun e w' => e = .returned (.bool (nm b)) ∧ w = w' := by
  by_cases h1 : 97 ≤ b
  · by_cases h2 : b ≤ 101
    · have e : nm b = true := by unfold nm; rw [decide_eq_true h1, decide_eq_true h2]; rfl
      rw [e]
      clear e
      have t2 : decide ((b : Int) ≤ 101) = true := decide_eq_true (by omega)
      go_enter Try.func76, Try.ntmps76
      go_wp2_with fail
      go_ret
      exact ⟨rfl, rfl⟩
    · have e : nm b = false := by unfold nm; rw [decide_eq_false h2, Bool.and_false]
      rw [e]
      clear e
      have t2 : decide ((b : Int) ≤ 101) = false := decide_eq_false (by omega)
      go_enter Try.func76, Try.ntmps76
      go_wp2_with fail
      go_ret
      exact ⟨rfl, rfl⟩
  · have e : nm b = false := by unfold nm; rw [decide_eq_false h1, Bool.false_and]
    rw [e]
    clear e
    go_enter Try.func76, Try.ntmps76
    go_wp2_with fail
    go_ret
    exact ⟨rfl, rfl⟩
theorem TextOk_any (s : ByteArray) (hs : s.size ≤ maxLen) (w : World) :
    Calls Try.prog 58 #[.string s] w fun e w' => e = .returned (.bool (textB s)) ∧ w = w' := by
  by_cases h1 : s.size ≤ 40
  · have hq : (bs s).all isL = textB s := by unfold textB; rw [decide_eq_true h1, Bool.true_and]
    have HQ := Lib.hid hq
    clear hq
    have t1 : decide ((s.size : Int) ≤ 40) = true := decide_eq_true (by omega)
    go_enter Try.func58, Try.ntmps58
    go_wp2_with fail
    refine (l1Letters_any s hs w).mono ?_
    rintro e w1 ⟨rfl, rfl⟩
    rw [HQ.out]
    go_wp2_with fail
    go_ret
    exact ⟨rfl, rfl⟩
  · have t1 : decide ((s.size : Int) ≤ 40) = false := decide_eq_false (by omega)
    have e : textB s = false := by unfold textB; rw [decide_eq_false h1, Bool.false_and]
    rw [e]
    clear e
    go_enter Try.func58, Try.ntmps58
    go_wp2_with fail
    go_ret
    exact ⟨rfl, rfl⟩
set_option maxHeartbeats 1000000 in
theorem l6Many_any (s : ByteArray) (n : Nat) (hn : s.size * n ≤ 100) (hs : s.size ≤ 100) (hn2 : n ≤ 100) (w : World) :
    Calls Try.prog 60 #[.string s, .int .i64 n] w fun e w' => (∃ t : ByteArray, e = .returned (.string t) ∧ t.size ≤ 100) ∧ w = w' := by
  go_enter Try.func60, Try.ntmps60
  go_wp2_with fail
  go_loop [0, 1, 5] (fun a i o => ∃ (x y : ByteArray) (k : Nat), a = .string x ∧ i = .int .i64 k ∧ o = .string y ∧ y.size + x.size * k ≤ 100 ∧ x.size ≤ 200 ∧ k ≤ 100) (fun _ i _ => (intOf i).toNat)
  case atStart => exact ⟨s, ⟨#[]⟩, n, rfl, rfl, rfl, by show 0 + _ ≤ _; omega, by omega, hn2⟩
  case round =>
    obtain ⟨x, y, k, rfl, rfl, rfl, h1, h2, h3⟩ := hrel
    have hxk : (x ++ x).size = x.size + x.size := by rw [← bs_len, bs_append, List.length_append, bs_len]
    have hyx : (y ++ x).size = y.size + x.size := by rw [← bs_len, bs_append, List.length_append, bs_len, bs_len]
    by_cases h0 : k = 0
    · subst h0
      go_wp2_with fail
      go_ret
      exact ⟨⟨y, rfl, by omega⟩, rfl⟩
    · have hx1 : x.size ≤ 100 := by
        have : x.size * 1 ≤ x.size * k := Nat.mul_le_mul_left _ (by omega)
        omega
      obtain ⟨m, hm⟩ : ∃ m, m = k / 2 := ⟨_, rfl⟩
      have e2 : (k : Int) / 2 = ((m : Nat) : Int) := by omega
      have hpos : 0 < (k : Int) := by omega
      have hm1 : m ≤ 100 ∧ m < k := by omega
      have hy1 : y.size ≤ 100 := by omega
      rcases Nat.mod_two_eq_zero_or_one k with hk | hk
      · have e1 : (k : Int) % 2 = 0 := by omega
        have hmul : (x.size + x.size) * m = x.size * k := by
          have : k = 2 * m := by omega
          rw [this, ← Nat.two_mul, Nat.mul_comm 2, Nat.mul_assoc]
        have HM := Lib.hid hmul; have HX := Lib.hid hxk; have H1 := Lib.hid h1
        clear hmul hxk hyx h1 hk hm
        go_wp2_with fail
        go_round
        case rel => exact ⟨x ++ x, y, m, rfl, rfl, rfl, by rw [HX.out, HM.out]; exact H1.out, by rw [HX.out]; omega, by omega⟩
        case measure => simp [intOf]; omega
      · have e1 : (k : Int) % 2 = 1 := by omega
        have hmul : y.size + x.size + (x.size + x.size) * m = y.size + x.size * k := by
          have : k = 2 * m + 1 := by omega
          rw [this, Nat.mul_add, ← Nat.two_mul, Nat.mul_comm 2, Nat.mul_assoc, Nat.mul_one]; omega
        have HM := Lib.hid hmul; have HX := Lib.hid hxk; have HY := Lib.hid hyx; have H1 := Lib.hid h1
        clear hmul hxk hyx h1 hm
        have t2 : (((k : Int) % 2) == 1) = true := by rw [e1]; rfl
        go_wp2_with fail
        go_round
        case rel => exact ⟨x ++ x, y ++ x, m, rfl, rfl, rfl, by rw [HX.out, HY.out, HM.out]; exact H1.out, by rw [HX.out]; omega, by omega⟩
        case measure => simp [intOf]; omega
theorem PathOk_any (s : ByteArray) (hs : s.size ≤ maxLen) (w : World) :
    Calls Try.prog 57 #[.string s] w fun e w' => e = .returned (.bool (pathB s)) ∧ w = w' := by
  unfold maxLen at hs
  by_cases h1 : s.size = 1
  · have t1 : ((s.size : Int) == 1) = true := by rw [h1]; rfl
    have hlt : 0 < s.size := by omega
    have hq : nm (s[0]'hlt).toNat = pathB s := by unfold pathB; rw [dif_pos h1]
    have HQ := Lib.hid hq; clear hq
    have HC := Lib.hid (l11Name_any (s[0]'hlt).toNat w)
    go_enter Try.func57, Try.ntmps57
    go_wp2_with fail
    refine HC.out.mono ?_
    rintro e w1 ⟨rfl, rfl⟩
    rw [HQ.out]
    go_wp2_with fail
    go_ret
    exact ⟨rfl, rfl⟩
  · by_cases h3 : s.size = 3
    · have t1 : ((s.size : Int) == 1) = false := beq_eq_false_iff_ne.2 (by omega)
      have t3 : ((s.size : Int) == 3) = true := by rw [h3]; rfl
      have hlt : 0 < s.size := by omega
      have hlt1 : 1 < s.size := by omega
      have hlt2 : 2 < s.size := by omega
      have hq : pathB s = (nm (s[0]'hlt).toNat && (decide ((s[1]'hlt1).toNat = 47) && nm (s[2]'hlt2).toNat)) := by unfold pathB; rw [dif_neg h1, dif_pos h3]
      have HC := Lib.hid (l11Name_any (s[0]'hlt).toNat w)
      have HC2 := Lib.hid (l11Name_any (s[2]'hlt2).toNat w)
      rw [hq]
      clear hq
      revert HC; revert HC2
      generalize nm (s[0]'hlt).toNat = q0
      generalize nm (s[2]'hlt2).toNat = q2
      intro HC2 HC
      cases q0
      · go_enter Try.func57, Try.ntmps57
        go_wp2_with fail
        refine HC.out.mono ?_
        rintro e w1 ⟨rfl, rfl⟩
        go_wp2_with fail
        go_ret
        exact ⟨rfl, rfl⟩
      · by_cases h47 : (s[1]'hlt1).toNat = 47
        · rw [decide_eq_true h47]
          have h47' : (((s[1]'hlt1).toNat : Int) == 47) = true := by rw [h47]; rfl
          clear h47
          go_enter Try.func57, Try.ntmps57
          go_wp2_with fail
          refine HC.out.mono ?_
          rintro e w1 ⟨rfl, rfl⟩
          go_wp2_with fail
          refine HC2.out.mono ?_
          rintro e w1 ⟨rfl, rfl⟩
          go_wp2_with fail
          go_ret
          exact ⟨by cases q2 <;> rfl, rfl⟩
        · rw [decide_eq_false h47]
          have h47' : (((s[1]'hlt1).toNat : Int) == 47) = false := beq_eq_false_iff_ne.2 (by omega)
          clear h47
          go_enter Try.func57, Try.ntmps57
          go_wp2_with fail
          refine HC.out.mono ?_
          rintro e w1 ⟨rfl, rfl⟩
          go_wp2_with fail
          go_ret
          exact ⟨rfl, rfl⟩
    · have t1 : ((s.size : Int) == 1) = false := beq_eq_false_iff_ne.2 (by omega)
      have t3 : ((s.size : Int) == 3) = false := beq_eq_false_iff_ne.2 (by omega)
      have hq : pathB s = false := by unfold pathB; rw [dif_neg h1, dif_neg h3]
      rw [hq]
      clear hq
      go_enter Try.func57, Try.ntmps57
      go_wp2_with fail
      go_ret
      exact ⟨rfl, rfl⟩
def clashB (s t : ByteArray) : Bool := if h : 0 < s.size ∧ 0 < t.size then (if s.size = t.size then false else ((s[0]'h.1).toNat : Int) == ((t[0]'h.2).toNat : Int)) else false
theorem l11Clash_any (s t : ByteArray) (hs : 0 < s.size ∧ s.size ≤ maxLen) (ht : 0 < t.size ∧ t.size ≤ maxLen) (w : World) :
    Calls Try.prog 67 #[.string s, .string t] w fun e w' => e = .returned (.bool (clashB s t)) ∧ Below w.heap.size w w' := by
  obtain ⟨hs0, hs1⟩ := hs
  obtain ⟨ht0, ht1⟩ := ht
  by_cases h1 : s.size = t.size
  · have hq : clashB s t = false := by unfold clashB; rw [dif_pos ⟨hs0, ht0⟩, if_pos h1]
    rw [hq]
    clear hq
    go_enter Try.func67, Try.ntmps67
    go_wp2_with fail
    refine region_pastT 12 [0, 1, 2, 3, 4, 5, 6, 7, 8, 9, 10, 11] [] (by kernel_rfl) (by kernel_rfl) (by kernel_rfl) ?_
    simp only [pick, List.map, List.getD_cons_zero, List.getD_cons_succ]
    repeat (go_big_quiet_step (fail))
    refine wpQuiet_nil ?_
    apply Exists.intro
    refine past_end ?_
    intro wz hz xx hxx hF
    dsimp only [allF] at hF
    try rw [hxx] at hF
    clear hxx xx
    simp only [List.drop]
    clear hF
    go_wp2_with fail
    go_ret
    exact ⟨rfl, hz⟩
  · have t1 : ((s.size : Int) != (t.size : Int)) = true := by simp; omega
    have hq : clashB s t = (((s[0]'hs0).toNat : Int) == ((t[0]'ht0).toNat : Int)) := by unfold clashB; rw [dif_pos ⟨hs0, ht0⟩, if_neg h1]
    rw [hq]
    clear hq
    go_enter Try.func67, Try.ntmps67
    go_wp2_with fail
    refine region_pastT 12 [0, 1, 2, 3, 4, 5, 6, 7, 8, 9, 10, 11] [] (by kernel_rfl) (by kernel_rfl) (by kernel_rfl) ?_
    simp only [pick, List.map, List.getD_cons_zero, List.getD_cons_succ]
    repeat (go_big_quiet_step (fail))
    refine wpQuiet_nil ?_
    apply Exists.intro
    refine past_end ?_
    intro wz hz xx hxx hF
    dsimp only [allF] at hF
    try rw [hxx] at hF
    clear hxx xx
    simp only [List.drop]
    clear hF
    go_wp2_with fail
    go_ret
    exact ⟨rfl, hz⟩
/-- What a letter counts where a piece may end. -/
def dig (x : Nat) : Int := ((x : Int) - 97) % 256
def turnL (l : List Nat) (p : Nat) : Bool := (dig (l.getD (p - 1) 0) + 2 * dig (l.getD (p - 2) 0) + 3 * dig (l.getD (p - 3) 0)) % 5 == 0
theorem bs_getD {s : ByteArray} {k : Nat} (h : k < s.size) : (bs s).getD k 0 = (s[k]'h).toNat := by rw [List.getD_eq_getElem?_getD, bs_get h]; rfl
set_option maxHeartbeats 2000000 in
theorem l1Turn_any (s : ByteArray) (p : Nat) (hp : 3 ≤ p ∧ p < s.size) (hs : s.size ≤ maxLen) (w : World) :
    Calls Try.prog 82 #[.string s, .int .i64 p] w fun e w' => e = .returned (.bool (turnL (bs s) p)) ∧ Below w.heap.size w w' := by
  unfold maxLen at hs
  obtain ⟨a, ha⟩ : ∃ a, a = p - 1 := ⟨_, rfl⟩
  obtain ⟨b, hb⟩ : ∃ b, b = p - 2 := ⟨_, rfl⟩
  obtain ⟨c, hc⟩ : ∃ c, c = p - 3 := ⟨_, rfl⟩
  have h1 : a < s.size := by omega
  have h2 : b < s.size := by omega
  have h3 : c < s.size := by omega
  have e1 : (p : Int) - 1 = ((a : Nat) : Int) := by omega
  have e2 : (p : Int) - 2 = ((b : Nat) : Int) := by omega
  have e3 : (p : Int) - 3 = ((c : Nat) : Int) := by omega
  have hp2 : (p : Int) ≤ 9223372036854775807 := by omega
  have hq : turnL (bs s) p = ((dig (s[a]'h1).toNat + 2 * dig (s[b]'h2).toNat + 3 * dig (s[c]'h3).toNat) % 5 == 0) := by unfold turnL; rw [← ha, ← hb, ← hc, bs_getD h1, bs_getD h2, bs_getD h3]
  rw [hq]
  clear ha hb hc hq
  go_enter Try.func82, Try.ntmps82
  go_wp2_with fail
  refine region_pastT 24 [0, 1, 2, 3, 4, 5, 6, 7, 8, 9, 10, 11, 12, 13, 14, 15, 16, 17, 18, 19, 20, 21, 22, 23] [] (by kernel_rfl) (by kernel_rfl) (by kernel_rfl) ?_
  simp only [pick, List.map, List.getD_cons_zero, List.getD_cons_succ]
  repeat (go_big_quiet_step (fail))
  refine wpQuiet_nil ?_
  apply Exists.intro
  refine past_end ?_
  intro wz hz xx hxx hF
  dsimp only [allF] at hF
  try rw [hxx] at hF
  clear hxx xx
  simp only [List.drop]
  clear hF
  go_wp2_with fail
  go_ret
  exact ⟨ret_bool rfl, hz⟩
end Go.Proofs.Ytpdkgpbfmpekgaa
