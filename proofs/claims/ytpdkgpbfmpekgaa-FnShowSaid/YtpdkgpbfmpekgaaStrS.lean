


/- Pieces, names, pads, by the reference. -/
import Derived.Test.YtpdkgpbfmpekgaaStr
import Derived.Test.YtpdkgpbfmpekgaaIn6
namespace Go.Proofs.Ytpdkgpbfmpekgaa
open Go.RowKit

theorem l1Letters_any (s : ByteArray) (hs : s.size ≤ maxLen) (w : World) :
    Calls Try.prog 77 #[.string s] w fun e w' => e = .returned (.bool ((bs s).all isL)) ∧ w = w' := by
  unfold maxLen at hs
  go_enter Try.func77, Try.ntmps77
  go_wp2_with fail
  go_loop [3] (fun i => ∃ k : Nat, k ≤ s.size ∧ i = .int .i64 k ∧ ((bs s).take k).all isL = true) (fun i => s.size - (intOf i).toNat)
  case atStart => exact ⟨0, Nat.zero_le _, rfl, rfl⟩
  case round =>
    obtain ⟨k, hk, rfl, ha⟩ := hrel
    have HA := Lib.hid ha; clear ha
    by_cases hlt : k < s.size
    · have hb := bs_get hlt
      have HB := Lib.hid hb; clear hb
      by_cases h1 : (s[k]'hlt).toNat < 97
      · have t1 : decide (((s[k]'hlt).toNat : Int) < 97) = true := decide_eq_true (by omega)
        have hall : (bs s).all isL = false := by
          rw [List.all_eq_false]
          exact ⟨_, List.mem_of_getElem? HB.out, by unfold isL; simp; omega⟩
        have HALL := Lib.hid hall; clear hall
        go_wp2_with fail
        go_ret
        exact ⟨ret_bool HALL.out.symm, rfl⟩
      · have t1 : decide (((s[k]'hlt).toNat : Int) < 97) = false := decide_eq_false (by omega)
        by_cases h2 : 122 < (s[k]'hlt).toNat
        · have t2 : decide (122 < ((s[k]'hlt).toNat : Int)) = true := decide_eq_true (by omega)
          have hall : (bs s).all isL = false := by
            rw [List.all_eq_false]
            exact ⟨_, List.mem_of_getElem? HB.out, by unfold isL; simp; omega⟩
          have HALL := Lib.hid hall; clear hall
          go_wp2_with fail
          go_ret
          exact ⟨ret_bool HALL.out.symm, rfl⟩
        · have t2 : decide (122 < ((s[k]'hlt).toNat : Int)) = false := decide_eq_false (by omega)
          have hnx : ((bs s).take (k + 1)).all isL = true := by
            rw [take_succ HB.out, List.all_append, HA.out]
            simp [isL]; omega
          have HNX := Lib.hid hnx; clear hnx
          go_wp2_with fail
          go_round
          case rel => exact ⟨k + 1, by omega, by go_num, HNX.out⟩
          case measure => simp [intOf]; omega
    · obtain rfl : k = s.size := by omega
      have hall : (bs s).all isL = true := by
        have := HA.out
        rwa [List.take_of_length_le (by rw [bs_len]; exact Nat.le_refl _)] at this
      have HALL := Lib.hid hall; clear hall
      go_wp2_with fail
      go_ret
      exact ⟨ret_bool HALL.out.symm, rfl⟩
theorem l2Code_any (s : ByteArray) (hp : pieceP (bs s)) (w : World) :
    Calls Try.prog 79 #[.string s] w fun e w' => e = .returned (.int .i64 (code (bs s))) ∧ w = w' := by
  have HP := Lib.hid hp
  have hs : s.size ≤ 8 := by have := hp.1.2; rwa [bs_len] at this
  clear hp
  go_enter Try.func79, Try.ntmps79
  go_wp2_with fail
  go_loop [3, 4] (fun n i => ∃ k : Nat, k ≤ s.size ∧ i = .int .i64 k ∧ n = .int .i64 (code ((bs s).take k))) (fun _ i => s.size - (intOf i).toNat)
  case atStart => exact ⟨0, Nat.zero_le _, rfl, rfl⟩
  case round =>
    obtain ⟨k, hk, rfl, rfl⟩ := hrel
    by_cases hlt : k < s.size
    · have hb := bs_get hlt
      have hl := List.all_eq_true.1 HP.out.2 _ (List.mem_of_getElem? hb)
      have hb2 : 97 ≤ (s[k]'hlt).toNat ∧ (s[k]'hlt).toNat ≤ 122 := by unfold isL at hl; simpa using hl
      have hct := code_take hb
      have hcl : code ((bs s).take (k + 1)) < 282429536481 := by
        have h1 := codeL_lt ((bs s).take (k + 1)) 0 (List.all_eq_true.2 fun x hx => List.all_eq_true.1 HP.out.2 x (List.mem_of_mem_take hx))
        have h2 : 27 ^ ((bs s).take (k + 1)).length ≤ 27 ^ 8 := Nat.pow_le_pow_right (by omega) (by rw [List.length_take, bs_len]; omega)
        have e : (27 : Nat) ^ 8 = 282429536481 := by decide
        unfold code; omega
      have HCT := Lib.hid hct; clear hb hl
      rw [hct] at hcl
      clear hct
      revert HCT hcl
      generalize code ((bs s).take k) = c
      intro hcl HCT
      go_wp2_with fail
      go_round
      case rel => exact ⟨k + 1, by omega, by go_num, by rw [HCT.out]; congr 1; omega⟩
      case measure => simp [intOf]; omega
    · obtain rfl : k = s.size := by omega
      have he : (bs s).take s.size = bs s := List.take_of_length_le (by rw [bs_len]; exact Nat.le_refl _)
      rw [he]
      clear he
      go_wp2_with fail
      go_ret
      exact ⟨rfl, rfl⟩
theorem l2Name_any (key : Int) (s : ByteArray) (hk : 1 ≤ key ∧ key ≤ 99) (hp : pieceP (bs s)) (w : World) :
    Calls Try.prog 70 #[.int .i64 key, .string s] w fun e w' => e = .returned (.int .i64 (nameL key (bs s))) ∧ w = w' := by
  have hc := code_lt hp
  have hn : nameL key (bs s) = ((code (bs s) : Int) * (2 * key + 1) + key * 7919) % 999999999989 := rfl
  have HN := Lib.hid hn; clear hn
  have hcall := l2Code_any s hp w
  have HCALL := Lib.hid hcall; clear hcall
  revert HCALL; revert HN; revert hc
  generalize code (bs s) = c
  intro hc HN HCALL
  have h1 : 0 ≤ (c : Int) * (2 * key + 1) ∧ (c : Int) * (2 * key + 1) ≤ 282429536481 * 199 := by
    constructor
    · exact Int.mul_nonneg (by omega) (by omega)
    · exact Int.mul_le_mul (by omega) (by omega) (by omega) (by omega)
  go_enter Try.func70, Try.ntmps70
  go_wp2_with fail
  refine HCALL.out.mono ?_
  rintro e w1 ⟨rfl, rfl⟩
  have u1 : wrap64 (2 * key) = 2 * key := by unfold wrap64; omega
  have u2 : wrap64 (2 * key + 1) = 2 * key + 1 := by unfold wrap64; omega
  have u3 : wrap64 ((c : Int) * (2 * key + 1)) = (c : Int) * (2 * key + 1) := by unfold wrap64; omega
  have u4 : wrap64 (key * 7919) = key * 7919 := by unfold wrap64; omega
  have u5 : wrap64 ((c : Int) * (2 * key + 1) + key * 7919) = (c : Int) * (2 * key + 1) + key * 7919 := by unfold wrap64; omega
  have u6 : ((c : Int) * (2 * key + 1) + key * 7919).tmod 999999999989 = ((c : Int) * (2 * key + 1) + key * 7919) % 999999999989 := Int.tmod_eq_emod_of_nonneg (by omega)
  go_wp2_with fail
  go_ret
  exact ⟨ret_int HN.out.symm, rfl⟩
theorem ClassOf_any (n : Nat) (w : World) :
    Calls Try.prog 80 #[.int .i64 n] w fun e w' => e = .returned (.int .i64 (classL n)) ∧ w = w' := by
  have hc : (n = 0 ∧ classL n = 0) ∨ (8 < n ∧ classL n = 0) ∨ ((1 ≤ n ∧ n ≤ 2) ∧ classL n = 2) ∨ ((3 ≤ n ∧ n ≤ 4) ∧ classL n = 4) ∨ ((5 ≤ n ∧ n ≤ 8) ∧ classL n = 8) := by
    unfold classL; split <;> (try split) <;> (try split) <;> omega
  rcases hc with ⟨h, e⟩ | ⟨h, e⟩ | ⟨h, e⟩ | ⟨h, e⟩ | ⟨h, e⟩
  · rw [e]; subst h
    go_enter Try.func80, Try.ntmps80
    go_wp2_with fail
    go_ret
    exact ⟨rfl, rfl⟩
  · rw [e]
    have t1 : decide ((n : Int) < 1) = false := decide_eq_false (by omega)
    have t2 : decide (8 < (n : Int)) = true := decide_eq_true (by omega)
    clear e
    go_enter Try.func80, Try.ntmps80
    go_wp2_with fail
    go_ret
    exact ⟨rfl, rfl⟩
  all_goals
    rw [e]
    have t1 : decide ((n : Int) < 1) = false := decide_eq_false (by omega)
    have t2 : decide (8 < (n : Int)) = false := decide_eq_false (by omega)
    clear e
  · have t3 : decide ((n : Int) ≤ 2) = true := decide_eq_true (by omega)
    go_enter Try.func80, Try.ntmps80
    go_wp2_with fail
    go_ret
    exact ⟨rfl, rfl⟩
  · have t3 : decide ((n : Int) ≤ 2) = false := decide_eq_false (by omega)
    have t4 : decide ((n : Int) ≤ 4) = true := decide_eq_true (by omega)
    go_enter Try.func80, Try.ntmps80
    go_wp2_with fail
    go_ret
    exact ⟨rfl, rfl⟩
  · have t3 : decide ((n : Int) ≤ 2) = false := decide_eq_false (by omega)
    have t4 : decide ((n : Int) ≤ 4) = false := decide_eq_false (by omega)
    go_enter Try.func80, Try.ntmps80
    go_wp2_with fail
    go_ret
    exact ⟨rfl, rfl⟩
/-- A string that holds just these bytes. -/
def IsStr (l : List Nat) (e : Ending) : Prop := ∃ t : ByteArray, e = .returned (.string t) ∧ bs t = l
theorem l2Pad_any (s : ByteArray) (hs : s.size ≤ maxLen) (w : World) :
    Calls Try.prog 75 #[.string s] w fun e w' => IsStr (padL (bs s)) e ∧ w = w' := by
  unfold maxLen at hs
  have hpad : padL (bs s) = bs s ++ List.replicate (classL s.size - s.size) 46 := by unfold padL; rw [bs_len]
  have HPAD := Lib.hid hpad; clear hpad
  have hcl := (classL_le (n := s.size)).1
  go_enter Try.func75, Try.ntmps75
  go_wp2_with fail
  refine (ClassOf_any s.size w).mono ?_
  rintro e w1 ⟨rfl, rfl⟩
  go_wp2_with fail
  go_loop [0] (fun v => ∃ (t : ByteArray) (k : Nat), v = .string t ∧ bs t = bs s ++ List.replicate k 46 ∧ k ≤ classL s.size - s.size) (fun v => classL s.size - (match v with | .string t => t.size | _ => 0))
  case atStart => exact ⟨s, 0, rfl, by simp, Nat.zero_le _⟩
  case round =>
    obtain ⟨t, k, rfl, ht, hk⟩ := hrel
    have hsz : t.size = s.size + k := by rw [← bs_len, ht, List.length_append, List.length_replicate, bs_len]
    have HT := Lib.hid ht; clear ht
    by_cases hlt : t.size < classL s.size
    · have t1 : decide ((t.size : Int) < (classL s.size : Int)) = true := decide_eq_true (by omega)
      have hnx : bs (t ++ ⟨#[46]⟩) = bs s ++ List.replicate (k + 1) 46 := by
        rw [bs_append, HT.out, List.append_assoc, List.replicate_succ']; rfl
      have HNX := Lib.hid hnx; clear hnx
      go_wp2_with fail
      go_round
      case rel => exact ⟨_, k + 1, rfl, HNX.out, by omega⟩
      case measure => 
        have : (t ++ (⟨#[46]⟩ : ByteArray)).size = t.size + 1 := by rw [← bs_len, bs_append, List.length_append, bs_len]; rfl
        simp only [this]; omega
    · have t1 : decide ((t.size : Int) < (classL s.size : Int)) = false := decide_eq_false (by omega)
      have hke : k = classL s.size - s.size := by omega
      have HKE := Lib.hid hke; clear hke
      go_wp2_with fail
      go_ret
      exact ⟨⟨t, rfl, by rw [HT.out, HPAD.out, HKE.out]⟩, rfl⟩
open Classical in
/-- What PadOf gives. -/
noncomputable def padOf (l : List Nat) : List Nat := if pieceP l then padL l else []
/-- What PadBack answers. -/
def PadB (l : List Nat) (e : Ending) : Prop := ∃ (t : ByteArray) (b : Bool), e = .returned (.tuple #[.string t, .bool b]) ∧ ((b = true ∧ padBack l = some (bs t)) ∨ (b = false ∧ padBack l = none ∧ bs t = []))
theorem size_extract {s : ByteArray} {k : Nat} (hk : k ≤ s.size) : (s.extract 0 k).size = k := by
  rw [← bs_len, bs_extract, List.drop_zero, List.length_take, bs_len]; omega
end Go.Proofs.Ytpdkgpbfmpekgaa
