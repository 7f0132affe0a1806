/- Plain arithmetic of binomial coefficients. No program in sight. -/
import Derived.WalkKit
namespace Go.Proofs.Ytahdphhlmblacaa
open Go.RowKit

/-- Binomial coefficients by Pascal's rule. -/
def bin : Nat → Nat → Nat
  | _, 0 => 1
  | 0, _ + 1 => 0
  | n + 1, k + 1 => bin n k + bin n (k + 1)

theorem bin_zero (n : Nat) : bin n 0 = 1 := by cases n <;> rfl
theorem bin_succ (n k : Nat) : bin (n + 1) (k + 1) = bin n k + bin n (k + 1) := rfl
theorem bin_above : ∀ n k : Nat, n < k → bin n k = 0
  | 0, k + 1, _ => rfl
  | n + 1, k + 1, h => by rw [bin_succ, bin_above n k (by omega), bin_above n (k + 1) (by omega)]
theorem bin_self : ∀ n : Nat, bin n n = 1
  | 0 => rfl
  | n + 1 => by rw [bin_succ, bin_self n, bin_above n (n + 1) (by omega)]
theorem bin_pow : ∀ n k : Nat, bin n k ≤ 2 ^ n
  | 0, 0 => by decide
  | 0, k + 1 => by simp [bin]
  | n + 1, 0 => by rw [bin_zero]; exact Nat.one_le_two_pow
  | n + 1, k + 1 => by
    rw [bin_succ, Nat.pow_succ]
    have h1 := bin_pow n k
    have h2 := bin_pow n (k + 1)
    omega
theorem bin_le (n k : Nat) (h : n ≤ 21) : bin n k ≤ 2097152 :=
  Nat.le_trans (bin_pow n k) (Nat.pow_le_pow_right (by omega) h)
theorem bin_pos : ∀ n k : Nat, k ≤ n → 1 ≤ bin n k
  | n, 0, _ => by rw [bin_zero]; omega
  | n + 1, k + 1, h => by rw [bin_succ]; have := bin_pos n k (by omega); omega

/-- (k+1) C(n+1, k+1) = (n+1) C(n, k). -/
theorem bin_absorb : ∀ n k : Nat, (k + 1) * bin (n + 1) (k + 1) = (n + 1) * bin n k
  | 0, 0 => rfl
  | 0, k + 1 => by rw [bin_above 1 (k + 2) (by omega), bin_above 0 (k + 1) (by omega), Nat.mul_zero, Nat.mul_zero]
  | n + 1, 0 => by
    have h := bin_absorb n 0
    rw [bin_zero] at h
    rw [bin_succ, bin_zero]
    omega
  | n + 1, k + 1 => by
    have h1 := bin_absorb n (k + 1)
    have h2 := bin_absorb n k
    rw [bin_succ (n + 1) (k + 1), Nat.mul_add, h1]
    have h3 : (k + 1 + 1) * bin (n + 1) (k + 1) = (n + 1) * bin n k + bin (n + 1) (k + 1) := by rw [Nat.succ_mul (k + 1), h2]
    have h4 : (n + 1 + 1) * bin (n + 1) (k + 1) = (n + 1) * bin (n + 1) (k + 1) + bin (n + 1) (k + 1) := by rw [Nat.succ_mul]
    rw [h3, h4, bin_succ n k, Nat.mul_add]
    omega
/-- The step of the product: from k drawn of a + k to k + 1 drawn of a + k + 1. -/
theorem bin_next (a k : Nat) : bin (a + k) k * (a + k + 1) / (k + 1) = bin (a + (k + 1)) (k + 1) := by
  have h := bin_absorb (a + k) k
  rw [Nat.mul_comm (bin (a + k) k), ← h, Nat.mul_div_cancel_left _ (by omega)]
  rfl

theorem all_step (m d k b : Nat) (hm : m ≤ 20) (hd : d ≤ m) (hk : k < d) (hb : b ≤ 2097152) :
    wrap64 ((wrap64 ((b : Int) * ((m : Int) - d + (k + 1)))).tdiv (k + 1)) = ((b * (m - d + k + 1) / (k + 1) : Nat) : Int) := by
  have e1 : (b : Int) * ((m : Int) - d + (k + 1)) = ((b * (m - d + k + 1) : Nat) : Int) := by
    rw [show (m : Int) - d + (k + 1) = ((m - d + k + 1 : Nat) : Int) from by omega]
    rw [Int.natCast_mul]
  have hle : b * (m - d + k + 1) ≤ 2097152 * 21 := Nat.mul_le_mul hb (by omega)
  have e2 : wrap64 ((b * (m - d + k + 1) : Nat) : Int) = ((b * (m - d + k + 1) : Nat) : Int) := IntWalk.wrap64_in _ ⟨by omega, by omega⟩
  rw [e1, e2]
  rw [show ((k : Int) + 1) = ((k + 1 : Nat) : Int) from rfl, ← Int.ofNat_tdiv]
  have hq : b * (m - d + k + 1) / (k + 1) ≤ b * (m - d + k + 1) := Nat.div_le_self _ _
  generalize b * (m - d + k + 1) / (k + 1) = q at hq ⊢
  exact IntWalk.wrap64_in _ ⟨by omega, by omega⟩

/-- In how many ways d of m are drawn; 0 where there are none. -/
def sAll (m d : Int) : Int := if 0 ≤ m ∧ m ≤ 20 ∧ 0 ≤ d ∧ d ≤ m then (bin m.toNat d.toNat : Int) else 0
theorem sAll_nat (m d : Nat) (hm : m ≤ 20) (hd : d ≤ m) : sAll m d = (bin m d : Int) := by
  unfold sAll; rw [if_pos (by omega)]; rfl
theorem sAll_no (m d : Int) (h : ¬ (0 ≤ m ∧ m ≤ 20 ∧ 0 ≤ d ∧ d ≤ m)) : sAll m d = 0 := by unfold sAll; rw [if_neg h]
theorem sAll_bd (m d : Int) : 0 ≤ sAll m d ∧ sAll m d ≤ 2097152 := by
  unfold sAll
  split
  · have := bin_le m.toNat d.toNat (by omega); omega
  · omega
/-- Of those that are not lost. -/
def sMiss (m l d : Int) : Int := if 0 ≤ m ∧ m ≤ 20 ∧ 0 ≤ l ∧ l ≤ m then sAll (m - l) d else 0
theorem sMiss_bd (m l d : Int) : 0 ≤ sMiss m l d ∧ sMiss m l d ≤ 2097152 := by
  unfold sMiss
  split
  · exact sAll_bd _ _
  · omega

/-- The least number from d on that is enough, looked for at most f steps. -/
def enoughFrom (m l o : Int) : Nat → Nat → Int
  | 0, d => d
  | f + 1, d => if sAll m d < sMiss m l d * o then enoughFrom m l o f (d + 1) else d
/-- How many must be drawn; -1 if something is not ok. -/
def sEnough (m l o : Int) : Int := if 1 ≤ m ∧ m ≤ 20 ∧ 1 ≤ l ∧ l ≤ m ∧ 1 ≤ o ∧ o ≤ 999 then enoughFrom m l o 21 0 else -1
theorem sMiss_mul (m l d o : Int) (h1 : 1 ≤ o) (h2 : o ≤ 999) : 0 ≤ sMiss m l d * o ∧ sMiss m l d * o ≤ 2097152 * 999 := by
  obtain ⟨a, b⟩ := sMiss_bd m l d
  refine ⟨Int.mul_nonneg a (by omega), ?_⟩
  exact Int.mul_le_mul b h2 (by omega) (by omega)
theorem sMiss_none (m l d : Int) (h : m - l < d) : sMiss m l d = 0 := by
  unfold sMiss
  split
  · exact sAll_no _ _ (by omega)
  · rfl
/-- The search's step. -/
theorem enough_step (m l o : Int) (f d : Nat) (h : sAll m d < sMiss m l d * o) : enoughFrom m l o (f + 1) d = enoughFrom m l o f (d + 1) := by
  show (if _ then _ else _) = _
  rw [if_pos h]
theorem enough_stop (m l o : Int) (f d : Nat) (h : ¬ sAll m d < sMiss m l d * o) : enoughFrom m l o (f + 1) d = d := by
  show (if _ then _ else _) = _
  rw [if_neg h]
theorem enough_more (m l o : Int) (d : Nat) (h : sAll m d < sMiss m l d * o) : (d : Int) ≤ m - l := by
  rcases Int.lt_or_le (m - l) (d : Int) with h1 | h1
  · rw [sMiss_none m l d h1] at h
    have := (sAll_bd m d).1
    omega
  · exact h1

/-! ### Laws of the binomials -/
theorem bin_le_succ : ∀ n k : Nat, bin n k ≤ bin (n + 1) k
  | n, 0 => by rw [bin_zero, bin_zero]; omega
  | n, k + 1 => by rw [bin_succ]; omega
theorem bin_mono {n m : Nat} (k : Nat) (h : n ≤ m) : bin n k ≤ bin m k := by
  induction h with
  | refl => exact Nat.le_refl _
  | step _ ih => exact Nat.le_trans ih (bin_le_succ _ _)
theorem bin_sym : ∀ a b : Nat, bin (a + b) a = bin (a + b) b
  | 0, 0 => rfl
  | 0, b + 1 => by rw [bin_zero, Nat.zero_add, bin_self]
  | a + 1, 0 => by rw [bin_zero, Nat.add_zero, bin_self]
  | a + 1, b + 1 => by
    have h1 := bin_sym a (b + 1)
    have h2 := bin_sym (a + 1) b
    rw [show a + 1 + (b + 1) = (a + (b + 1)) + 1 from by omega, bin_succ, bin_succ]
    rw [show a + 1 + b = a + (b + 1) from by omega] at h2
    omega
theorem bin_one : ∀ n : Nat, bin n 1 = n
  | 0 => rfl
  | n + 1 => by rw [bin_succ, bin_zero, bin_one n]; omega
theorem sAll_yes (m d : Int) (h1 : 0 ≤ m) (h2 : m ≤ 20) (h3 : 0 ≤ d) (h4 : d ≤ m) : sAll m d = (bin m.toNat d.toNat : Int) := by
  unfold sAll; rw [if_pos ⟨h1, h2, h3, h4⟩]
theorem sAll_pos (m d : Int) (h1 : 0 ≤ m) (h2 : m ≤ 20) (h3 : 0 ≤ d) (h4 : d ≤ m) : 1 ≤ sAll m d := by
  rw [sAll_yes m d h1 h2 h3 h4]; have := bin_pos m.toNat d.toNat (by omega); omega
theorem sAll_zero (m : Int) (h1 : 0 ≤ m) (h2 : m ≤ 20) : sAll m 0 = 1 := by
  rw [sAll_yes m 0 h1 h2 (by omega) h1]; show ((bin m.toNat 0 : Nat) : Int) = 1; rw [bin_zero]; rfl
theorem sAll_pascal (m d : Int) (h1 : 1 ≤ m) (h2 : m ≤ 20) (h3 : 1 ≤ d) (h4 : d ≤ m) : sAll m d = sAll (m - 1) (d - 1) + sAll (m - 1) d := by
  obtain ⟨m, rfl⟩ := Int.eq_ofNat_of_zero_le (show 0 ≤ m by omega)
  obtain ⟨d, rfl⟩ := Int.eq_ofNat_of_zero_le (show 0 ≤ d by omega)
  obtain ⟨m, rfl⟩ := Nat.exists_eq_add_of_le' (show 1 ≤ m by omega)
  obtain ⟨d, rfl⟩ := Nat.exists_eq_add_of_le' (show 1 ≤ d by omega)
  rw [show ((m + 1 : Nat) : Int) - 1 = (m : Int) from by omega, show ((d + 1 : Nat) : Int) - 1 = (d : Int) from by omega, sAll_nat _ _ (by omega) (by omega), sAll_nat m d (by omega) (by omega), bin_succ]
  by_cases h : d + 1 ≤ m
  · rw [sAll_nat m (d + 1) (by omega) h]; omega
  · rw [sAll_no _ _ (by omega), bin_above m (d + 1) (by omega)]; omega
theorem sAll_sym (m d : Int) (h1 : 0 ≤ m) (h2 : m ≤ 20) (h3 : 0 ≤ d) (h4 : d ≤ m) : sAll m d = sAll m (m - d) := by
  rw [sAll_yes m d h1 h2 h3 h4, sAll_yes m (m - d) h1 h2 (by omega) (by omega)]
  have h := bin_sym d.toNat (m - d).toNat
  rw [show d.toNat + (m - d).toNat = m.toNat from by omega] at h
  rw [h]
theorem sAll_mono (a m d : Int) (h1 : a ≤ m) (h2 : m ≤ 20) : sAll a d ≤ sAll m d := by
  by_cases h : 0 ≤ a ∧ 0 ≤ d ∧ d ≤ a
  · rw [sAll_yes a d (by omega) (by omega) (by omega) (by omega), sAll_yes m d (by omega) (by omega) (by omega) (by omega)]
    have := bin_mono d.toNat (show a.toNat ≤ m.toNat by omega)
    omega
  · rw [sAll_no a d (by omega)]; exact (sAll_bd m d).1
theorem sMiss_yes (m l d : Int) (h : 0 ≤ m ∧ m ≤ 20 ∧ 0 ≤ l ∧ l ≤ m) : sMiss m l d = sAll (m - l) d := by unfold sMiss; rw [if_pos h]
theorem sMiss_less (m l d : Int) (h2 : m ≤ 20) (h3 : 0 ≤ l) : sMiss m (l + 1) d ≤ sMiss m l d := by
  by_cases h : 0 ≤ m ∧ l + 1 ≤ m
  · rw [sMiss_yes m (l + 1) d (by omega), sMiss_yes m l d (by omega)]
    exact sAll_mono _ _ _ (by omega) (by omega)
  · have e : sMiss m (l + 1) d = 0 := by unfold sMiss; rw [if_neg (by omega)]
    rw [e]; exact (sMiss_bd _ _ _).1
theorem sMiss_all (m l d : Int) (h : 0 ≤ m ∧ m ≤ 20 ∧ 0 ≤ l ∧ l ≤ m) : sMiss m l d ≤ sAll m d := by
  rw [sMiss_yes m l d h]; exact sAll_mono _ _ _ (by omega) (by omega)

/-- The sum of the first k of row n. -/
def rowSum (n : Nat) : Nat → Nat
  | 0 => 0
  | k + 1 => rowSum n k + bin n k
theorem rowSum_succ (n : Nat) : ∀ k : Nat, rowSum (n + 1) (k + 1) = rowSum n (k + 1) + rowSum n k
  | 0 => by simp [rowSum, bin_zero]
  | k + 1 => by
    have h := rowSum_succ n k
    show rowSum (n + 1) (k + 1) + bin (n + 1) (k + 1) = rowSum n (k + 1) + bin n (k + 1) + (rowSum n k + bin n k)
    rw [h, bin_succ]; omega
theorem rowSum_all : ∀ n : Nat, rowSum n (n + 1) = 2 ^ n
  | 0 => rfl
  | n + 1 => by
    have h := rowSum_all n
    rw [rowSum_succ n (n + 1)]
    show rowSum n (n + 1) + bin n (n + 1) + rowSum n (n + 1) = _
    rw [bin_above n (n + 1) (by omega), h, Nat.pow_succ]; omega
theorem rowSum_le (n k : Nat) (hn : n ≤ 20) : rowSum n k ≤ 2097152 * k := by
  induction k with
  | zero => exact Nat.le_refl _
  | succ k ih => show rowSum n k + bin n k ≤ _; have := bin_le n k (by omega); omega

/-! ### What is enough, is enough; what is less, is not -/
def Enough (m l o : Int) (d : Nat) : Prop := sMiss m l d * o ≤ sAll m d
theorem enoughFrom_spec (m l o : Int) : ∀ f d : Nat, m - l < ((d + f : Nat) : Int) → ∃ r : Nat, enoughFrom m l o f d = r ∧ d ≤ r ∧ Enough m l o r ∧ ∀ x, d ≤ x → x < r → ¬ Enough m l o x
  | 0, d, h => ⟨d, rfl, Nat.le_refl _, by
      unfold Enough; rw [sMiss_none m l d (by omega)]; have := (sAll_bd m d).1; omega, fun x h1 h2 => by omega⟩
  | f + 1, d, h => by
    by_cases ht : sAll m d < sMiss m l d * o
    · obtain ⟨r, e, h1, h2, h3⟩ := enoughFrom_spec m l o f (d + 1) (by omega)
      refine ⟨r, by rw [enough_step m l o f d ht, e], by omega, h2, fun x hx hxr => ?_⟩
      rcases Nat.eq_or_lt_of_le hx with rfl | hx
      · unfold Enough; omega
      · exact h3 x hx hxr
    · exact ⟨d, enough_stop m l o f d ht, Nat.le_refl _, by unfold Enough; omega, fun x h1 h2 => by omega⟩
theorem sEnough_spec (m l o : Int) (h : 1 ≤ m ∧ m ≤ 20 ∧ 1 ≤ l ∧ l ≤ m ∧ 1 ≤ o ∧ o ≤ 999) : ∃ r : Nat, sEnough m l o = r ∧ Enough m l o r ∧ ∀ x, x < r → ¬ Enough m l o x := by
  obtain ⟨r, e, _, h2, h3⟩ := enoughFrom_spec m l o 21 0 (by omega)
  exact ⟨r, by unfold sEnough; rw [if_pos h, e], h2, fun x hx => h3 x (by omega) hx⟩
theorem sEnough_le (m l o : Int) (h : 1 ≤ m ∧ m ≤ 20 ∧ 1 ≤ l ∧ l ≤ m ∧ 1 ≤ o ∧ o ≤ 999) (d : Nat) (hd : Enough m l o d) : sEnough m l o ≤ d := by
  obtain ⟨r, e, _, h3⟩ := sEnough_spec m l o h
  rcases Nat.lt_or_ge d r with h4 | h4
  · exact absurd hd (h3 d h4)
  · rw [e]; omega
theorem sEnough_neg (m l o : Int) : (1 ≤ m ∧ m ≤ 20 ∧ 1 ≤ l ∧ l ≤ m ∧ 1 ≤ o ∧ o ≤ 999 ∧ 0 ≤ sEnough m l o ∧ sEnough m l o ≤ m - l + 1) ∨ sEnough m l o = -1 := by
  by_cases h : 1 ≤ m ∧ m ≤ 20 ∧ 1 ≤ l ∧ l ≤ m ∧ 1 ≤ o ∧ o ≤ 999
  · left
    obtain ⟨r, e, h2, h3⟩ := sEnough_spec m l o h
    have h4 := sEnough_le m l o h (m - l + 1).toNat (by
      unfold Enough; rw [sMiss_none m l _ (by omega)]; have := (sAll_bd m ((m - l + 1).toNat : Int)).1; omega)
    exact ⟨h.1, h.2.1, h.2.2.1, h.2.2.2.1, h.2.2.2.2.1, h.2.2.2.2.2, by omega, by omega⟩
  · right; unfold sEnough; rw [if_neg h]
theorem enough_less_lost (m l o : Int) (h : 1 ≤ m ∧ m ≤ 20 ∧ 1 ≤ l ∧ l + 1 ≤ m ∧ 1 ≤ o ∧ o ≤ 999) : sEnough m (l + 1) o ≤ sEnough m l o := by
  obtain ⟨r, e, h2, h3⟩ := sEnough_spec m l o (by omega)
  rw [e]
  refine sEnough_le m (l + 1) o (by omega) r (Int.le_trans ?_ h2)
  exact Int.mul_le_mul_of_nonneg_right (sMiss_less m l r (by omega) (by omega)) (by omega)
theorem enough_more_of (m l o p : Int) (h : 1 ≤ m ∧ m ≤ 20 ∧ 1 ≤ l ∧ l ≤ m ∧ 1 ≤ o ∧ o ≤ 999) (hp : o ≤ p) (hp' : p ≤ 999) : sEnough m l o ≤ sEnough m l p := by
  obtain ⟨r, e, h2, h3⟩ := sEnough_spec m l p (by omega)
  rw [e]
  refine sEnough_le m l o h r (Int.le_trans ?_ h2)
  exact Int.mul_le_mul_of_nonneg_left hp (sMiss_bd m l r).1
theorem enough_at (m l o : Int) (h : 1 ≤ m ∧ m ≤ 20 ∧ 1 ≤ l ∧ l ≤ m ∧ 1 ≤ o ∧ o ≤ 999) : sMiss m l (sEnough m l o) * o ≤ sAll m (sEnough m l o) ∧
    (sEnough m l o ≠ 0 → sAll m (sEnough m l o - 1) < sMiss m l (sEnough m l o - 1) * o) := by
  obtain ⟨r, e, h2, h3⟩ := sEnough_spec m l o h
  rw [e]
  refine ⟨h2, fun hr => ?_⟩
  have := h3 (r - 1) (by omega)
  unfold Enough at this
  rw [show ((r - 1 : Nat) : Int) = (r : Int) - 1 from by omega] at this
  omega
theorem enough_half (m l : Int) (h : 1 ≤ m ∧ m ≤ 20 ∧ 1 ≤ l ∧ l ≤ m) (hh : m ≤ 2 * l) : sEnough m l 2 ≤ 1 := by
  refine sEnough_le m l 2 (by omega) 1 ?_
  unfold Enough
  rw [sMiss_yes m l _ (by omega), sAll_yes m _ (by omega) (by omega) (by omega) (by omega)]
  show _ ≤ ((bin m.toNat 1 : Nat) : Int)
  rw [bin_one]
  by_cases h1 : 1 ≤ m - l
  · rw [sAll_yes (m - l) _ (by omega) (by omega) (by omega) (by omega)]
    show ((bin (m - l).toNat 1 : Nat) : Int) * 2 ≤ _
    rw [bin_one]; omega
  · rw [sAll_no _ _ (by omega)]; omega
theorem enough_ones (m l : Int) (h : 1 ≤ m ∧ m ≤ 20 ∧ 1 ≤ l ∧ l ≤ m) : sEnough m l 1 = 0 := by
  have h1 := sEnough_le m l 1 (by omega) 0 (by
    unfold Enough
    rw [sMiss_yes m l _ (by omega)]
    show sAll (m - l) 0 * 1 ≤ sAll m 0
    rw [sAll_zero _ (by omega) (by omega), sAll_zero _ (by omega) (by omega)]; omega)
  rcases sEnough_neg m l 1 with h2 | h2
  · omega
  · obtain ⟨r, e, _⟩ := sEnough_spec m l 1 (by omega)
    omega
theorem enough_lost_all (m o : Int) (h : 1 ≤ m ∧ m ≤ 20 ∧ 1 ≤ o ∧ o ≤ 999) : sEnough m m o ≤ 1 := by
  refine sEnough_le m m o (by omega) 1 ?_
  unfold Enough
  rw [sMiss_none m m _ (by omega)]
  have := (sAll_bd m ((1 : Nat) : Int)).1
  omega

/-- The row in the middle of being turned: the cells above k are already those of row n. -/
def mix (n k j : Nat) : Int := if j ≤ k then (bin (n - 1) j : Int) else (bin n j : Int)
theorem mix_start (n j : Nat) (hn : 1 ≤ n) : mix n n j = (bin (n - 1) j : Int) := by
  unfold mix
  split
  · rfl
  · rw [bin_above n j (by omega), bin_above (n - 1) j (by omega)]
theorem mix_end (n j : Nat) : mix n 0 j = (bin n j : Int) := by
  unfold mix
  split
  · have : j = 0 := by omega
    subst this
    rw [bin_zero, bin_zero]
  · rfl
theorem mix_at (n k : Nat) : mix n k k = (bin (n - 1) k : Int) := by simp [mix]
theorem mix_below (n k j : Nat) (h : j ≤ k) : mix n k j = (bin (n - 1) j : Int) := by simp [mix, h]
theorem mix_step (n k j : Nat) (hn : 1 ≤ n) (hk : 1 ≤ k) : mix n (k - 1) j = if j = k then mix n k k + mix n k (k - 1) else mix n k j := by
  by_cases h : j = k
  · subst h
    rw [if_pos rfl, mix_at, mix_below n j (j - 1) (by omega)]
    obtain ⟨j, rfl⟩ := Nat.exists_eq_add_of_le' hk
    obtain ⟨n, rfl⟩ := Nat.exists_eq_add_of_le' hn
    simp only [mix, Nat.add_sub_cancel]
    rw [if_neg (by omega), bin_succ]
    omega
  · rw [if_neg h]
    unfold mix
    by_cases h2 : j ≤ k
    · rw [if_pos (by omega), if_pos h2]
    · rw [if_neg (by omega), if_neg h2]
theorem mix_bd (n k j : Nat) (hn : n ≤ 20) : 0 ≤ mix n k j ∧ mix n k j ≤ 2097152 := by
  unfold mix
  have h1 := bin_le (n - 1) j (by omega)
  have h2 := bin_le n j (by omega)
  split <;> omega
end Go.Proofs.Ytahdphhlmblacaa
