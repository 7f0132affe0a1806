


/- The ends of spans, counted from behind: plain. -/
import Derived.Test.YtpdbohjgmghgkaaKpK
namespace Go.Proofs.Ytpdbohjgmghgkaa

def tl (l : List St) (span : Int) (j : Nat) : List Nat := (List.range' j (l.length - j)).filter (endS l span)
theorem tl_end (l : List St) (span : Int) : tl l span l.length = [] := by simp [tl]
theorem tl_step {l : List St} {span : Int} {j : Nat} (hj : j < l.length) : tl l span j = (if endS l span j then [j] else []) ++ tl l span (j + 1) := by
  unfold tl
  have : l.length - j = (l.length - (j + 1)) + 1 := by omega
  rw [this, List.range'_succ, List.filter_cons]
  split <;> rfl
theorem tl_ids (l : List St) (span : Int) {j : Nat} (hj : j ≤ l.length) : ids l span l.length = ids l span j ++ tl l span j := by
  unfold ids tl
  rw [← List.filter_append]
  congr 1
  rw [List.range_eq_range', List.range_eq_range']
  have h1 := List.range'_append_1 (s := 0) (m := j) (n := l.length - j)
  rw [Nat.zero_add] at h1
  rw [h1]
  congr 1; omega
theorem tl_out {l : List St} {span m : Int} {j : Nat} (hj : j ≤ l.length) (h : ((tl l span j).length : Int) ≤ m ∨ j = l.length) (he : j = 0 ∨ m ≤ ((tl l span j).length : Int)) : tl l span j = kD l span m := by
  unfold kD
  by_cases h1 : m ≤ ((tl l span j).length : Int)
  · rcases h with h | h
    · rw [tl_ids l span hj, lastN_app (by omega)]
    · subst h
      rw [tl_end] at h1 ⊢
      rw [lastN_none (by simpa using h1)]
  · rcases he with rfl | he
    · rw [tl_ids l span hj]
      have h0 : ids l span 0 = [] := rfl
      rw [h0, List.nil_append, lastN_all (by omega)]
    · exact absurd he h1
end Go.Proofs.Ytpdbohjgmghgkaa
