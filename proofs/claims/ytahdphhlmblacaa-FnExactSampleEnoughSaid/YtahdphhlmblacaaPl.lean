/- Plain arithmetic of binomial coefficients. No program in sight. -/
import Derived.WalkKit
namespace Go.Proofs.Ytahdphhlmblacaa
open Go.RowKit

/-- Binomial coefficients by Pascal's rule. -/
def bin : Nat → Nat → Nat
  | _, 0 => 1
  | 0, _ + 1 => 0
  | n + 1, k + 1 => bin n k + bin n (k + 1)

theorem bin_zero (n : Nat) : bin n 0 = 1 := by cases n <;> rfl
theorem bin_succ (n k : Nat) : bin (n + 1) (k + 1) = bin n k + bin n (k + 1) := rfl
theorem bin_above : ∀ n k : Nat, n < k → bin n k = 0
  | 0, k + 1, _ => rfl
  | n + 1, k + 1, h => by rw [bin_succ, bin_above n k (by omega), bin_above n (k + 1) (by omega)]
theorem bin_self : ∀ n : Nat, bin n n = 1
  | 0 => rfl
  | n + 1 => by rw [bin_succ, bin_self n, bin_above n (n + 1) (by omega)]
theorem bin_pow : ∀ n k : Nat, bin n k ≤ 2 ^ n
  | 0, 0 => by decide
  | 0, k + 1 => by simp [bin]
  | n + 1, 0 => by rw [bin_zero]; exact Nat.one_le_two_pow
  | n + 1, k + 1 => by
    rw [bin_succ, Nat.pow_succ]
    have h1 := bin_pow n k
    have h2 := bin_pow n (k + 1)
    omega
theorem bin_le (n k : Nat) (h : n ≤ 21) : bin n k ≤ 2097152 :=
  Nat.le_trans (bin_pow n k) (Nat.pow_le_pow_right (by omega) h)
theorem bin_pos : ∀ n k : Nat, k ≤ n → 1 ≤ bin n k
  | n, 0, _ => by rw [bin_zero]; omega
  | n + 1, k + 1, h => by rw [bin_succ]; have := bin_pos n k (by omega); omega

/-- (k+1) C(n+1, k+1) = (n+1) C(n, k). -/
theorem bin_absorb : ∀ n k : Nat, (k + 1) * bin (n + 1) (k + 1) = (n + 1) * bin n k
  | 0, 0 => rfl
  | 0, k + 1 => by rw [bin_above 1 (k + 2) (by omega), bin_above 0 (k + 1) (by omega), Nat.mul_zero, Nat.mul_zero]
  | n + 1, 0 => by
    have h := bin_absorb n 0
    rw [bin_zero] at h
    rw [bin_succ, bin_zero]
    omega
  | n + 1, k + 1 => by
    have h1 := bin_absorb n (k + 1)
    have h2 := bin_absorb n k
    rw [bin_succ (n + 1) (k + 1), Nat.mul_add, h1]
    have h3 : (k + 1 + 1) * bin (n + 1) (k + 1) = (n + 1) * bin n k + bin (n + 1) (k + 1) := by rw [Nat.succ_mul (k + 1), h2]
    have h4 : (n + 1 + 1) * bin (n + 1) (k + 1) = (n + 1) * bin (n + 1) (k + 1) + bin (n + 1) (k + 1) := by rw [Nat.succ_mul]
    rw [h3, h4, bin_succ n k, Nat.mul_add]
    omega
/-- The step of the product: from k drawn of a + k to k + 1 drawn of a + k + 1. -/
theorem bin_next (a k : Nat) : bin (a + k) k * (a + k + 1) / (k + 1) = bin (a + (k + 1)) (k + 1) := by
  have h := bin_absorb (a + k) k
  rw [Nat.mul_comm (bin (a + k) k), ← h, Nat.mul_div_cancel_left _ (by omega)]
  rfl

theorem all_step (m d k b : Nat) (hm : m ≤ 20) (hd : d ≤ m) (hk : k < d) (hb : b ≤ 2097152) :
    wrap64 ((wrap64 ((b : Int) * ((m : Int) - d + (k + 1)))).tdiv (k + 1)) = ((b * (m - d + k + 1) / (k + 1) : Nat) : Int) := by
  have e1 : (b : Int) * ((m : Int) - d + (k + 1)) = ((b * (m - d + k + 1) : Nat) : Int) := by
    rw [show (m : Int) - d + (k + 1) = ((m - d + k + 1 : Nat) : Int) from by omega]
    rw [Int.natCast_mul]
  have hle : b * (m - d + k + 1) ≤ 2097152 * 21 := Nat.mul_le_mul hb (by omega)
  have e2 : wrap64 ((b * (m - d + k + 1) : Nat) : Int) = ((b * (m - d + k + 1) : Nat) : Int) := IntWalk.wrap64_in _ ⟨by omega, by omega⟩
  rw [e1, e2]
  rw [show ((k : Int) + 1) = ((k + 1 : Nat) : Int) from rfl, ← Int.ofNat_tdiv]
  have hq : b * (m - d + k + 1) / (k + 1) ≤ b * (m - d + k + 1) := Nat.div_le_self _ _
  generalize b * (m - d + k + 1) / (k + 1) = q at hq ⊢
  exact IntWalk.wrap64_in _ ⟨by omega, by omega⟩

/-- In how many ways d of m are drawn; 0 where there are none. -/
def sAll (m d : Int) : Int := if 0 ≤ m ∧ m ≤ 20 ∧ 0 ≤ d ∧ d ≤ m then (bin m.toNat d.toNat : Int) else 0
theorem sAll_nat (m d : Nat) (hm : m ≤ 20) (hd : d ≤ m) : sAll m d = (bin m d : Int) := by
  unfold sAll; rw [if_pos (by omega)]; rfl
theorem sAll_no (m d : Int) (h : ¬ (0 ≤ m ∧ m ≤ 20 ∧ 0 ≤ d ∧ d ≤ m)) : sAll m d = 0 := by unfold sAll; rw [if_neg h]
theorem sAll_bd (m d : Int) : 0 ≤ sAll m d ∧ sAll m d ≤ 2097152 := by
  unfold sAll
  split
  · have := bin_le m.toNat d.toNat (by omega); omega
  · omega
/-- Of those that are not lost. -/
def sMiss (m l d : Int) : Int := if 0 ≤ m ∧ m ≤ 20 ∧ 0 ≤ l ∧ l ≤ m then sAll (m - l) d else 0
theorem sMiss_bd (m l d : Int) : 0 ≤ sMiss m l d ∧ sMiss m l d ≤ 2097152 := by
  unfold sMiss
  split
  · exact sAll_bd _ _
  · omega

/-- The least number from d on that is enough, looked for at most f steps. -/
def enoughFrom (m l o : Int) : Nat → Nat → Int
  | 0, d => d
  | f + 1, d => if sAll m d < sMiss m l d * o then enoughFrom m l o f (d + 1) else d
/-- How many must be drawn; -1 if something is not ok. -/
def sEnough (m l o : Int) : Int := if 1 ≤ m ∧ m ≤ 20 ∧ 1 ≤ l ∧ l ≤ m ∧ 1 ≤ o ∧ o ≤ 999 then enoughFrom m l o 21 0 else -1
theorem sMiss_mul (m l d o : Int) (h1 : 1 ≤ o) (h2 : o ≤ 999) : 0 ≤ sMiss m l d * o ∧ sMiss m l d * o ≤ 2097152 * 999 := by
  obtain ⟨a, b⟩ := sMiss_bd m l d
  refine ⟨Int.mul_nonneg a (by omega), ?_⟩
  exact Int.mul_le_mul b h2 (by omega) (by omega)
theorem sMiss_none (m l d : Int) (h : m - l < d) : sMiss m l d = 0 := by
  unfold sMiss
  split
  · exact sAll_no _ _ (by omega)
  · rfl
/-- The search's step. -/
theorem enough_step (m l o : Int) (f d : Nat) (h : sAll m d < sMiss m l d * o) : enoughFrom m l o (f + 1) d = enoughFrom m l o f (d + 1) := by
  show (if _ then _ else _) = _
  rw [if_pos h]
theorem enough_stop (m l o : Int) (f d : Nat) (h : ¬ sAll m d < sMiss m l d * o) : enoughFrom m l o (f + 1) d = d := by
  show (if _ then _ else _) = _
  rw [if_neg h]
theorem enough_more (m l o : Int) (d : Nat) (h : sAll m d < sMiss m l d * o) : (d : Int) ≤ m - l := by
  rcases Int.lt_or_le (m - l) (d : Int) with h1 | h1
  · rw [sMiss_none m l d h1] at h
    have := (sAll_bd m d).1
    omega
  · exact h1

/-- The row in the middle of being turned: the cells above k are already those of row n. -/
def mix (n k j : Nat) : Int := if j ≤ k then (bin (n - 1) j : Int) else (bin n j : Int)
theorem mix_start (n j : Nat) (hn : 1 ≤ n) : mix n n j = (bin (n - 1) j : Int) := by
  unfold mix
  split
  · rfl
  · rw [bin_above n j (by omega), bin_above (n - 1) j (by omega)]
theorem mix_end (n j : Nat) : mix n 0 j = (bin n j : Int) := by
  unfold mix
  split
  · have : j = 0 := by omega
    subst this
    rw [bin_zero, bin_zero]
  · rfl
theorem mix_at (n k : Nat) : mix n k k = (bin (n - 1) k : Int) := by simp [mix]
theorem mix_below (n k j : Nat) (h : j ≤ k) : mix n k j = (bin (n - 1) j : Int) := by simp [mix, h]
theorem mix_step (n k j : Nat) (hn : 1 ≤ n) (hk : 1 ≤ k) : mix n (k - 1) j = if j = k then mix n k k + mix n k (k - 1) else mix n k j := by
  by_cases h : j = k
  · subst h
    rw [if_pos rfl, mix_at, mix_below n j (j - 1) (by omega)]
    obtain ⟨j, rfl⟩ := Nat.exists_eq_add_of_le' hk
    obtain ⟨n, rfl⟩ := Nat.exists_eq_add_of_le' hn
    simp only [mix, Nat.add_sub_cancel]
    rw [if_neg (by omega), bin_succ]
    omega
  · rw [if_neg h]
    unfold mix
    by_cases h2 : j ≤ k
    · rw [if_pos (by omega), if_pos h2]
    · rw [if_neg (by omega), if_neg h2]
theorem mix_bd (n k j : Nat) (hn : n ≤ 20) : 0 ≤ mix n k j ∧ mix n k j ≤ 2097152 := by
  unfold mix
  have h1 := bin_le (n - 1) j (by omega)
  have h2 := bin_le n j (by omega)
  split <;> omega
end Go.Proofs.Ytahdphhlmblacaa
