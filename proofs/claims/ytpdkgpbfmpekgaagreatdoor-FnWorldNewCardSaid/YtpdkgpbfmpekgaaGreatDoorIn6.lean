


/- spec.l6In: a number lies between two. -/
import Derived.Test.YtpdkgpbfmpekgaaGreatDoorBase
namespace Go.Proofs.YtpdkgpbfmpekgaaGreatDoor
open Go.RowKit

theorem l6In_any (n lo hi : Int) (w : World) :
    Calls Tryz.prog 66 #[.int .i64 n, .int .i64 lo, .int .i64 hi] w fun e w' => e = .returned (.bool (decide (lo ≤ n) && decide (n ≤ hi))) ∧ w = w' := by
  by_cases h : lo ≤ n
  · go_enter Tryz.func66, Tryz.ntmps66
    go_wp2
    go_ret
    exact ⟨by simp [h], rfl⟩
  · go_enter Tryz.func66, Tryz.ntmps66
    go_wp2
    go_ret
    have h' : decide (lo ≤ n) = false := by simpa using h
    exact ⟨by rw [h']; rfl, rfl⟩

theorem l6In_yes (n lo hi : Int) (h1 : lo ≤ n) (h2 : n ≤ hi) (w : World) :
    Calls Tryz.prog 66 #[.int .i64 n, .int .i64 lo, .int .i64 hi] w fun e w' => e = .returned (.bool true) ∧ w = w' :=
  (l6In_any n lo hi w).mono fun e w' ⟨he, hw⟩ => ⟨by rw [he]; simp [h1, h2], hw⟩
theorem l6In_no (n lo hi : Int) (h : ¬ (lo ≤ n ∧ n ≤ hi)) (w : World) :
    Calls Tryz.prog 66 #[.int .i64 n, .int .i64 lo, .int .i64 hi] w fun e w' => e = .returned (.bool false) ∧ w = w' :=
  (l6In_any n lo hi w).mono fun e w' ⟨he, hw⟩ => ⟨by
    rw [he]
    have : (decide (lo ≤ n) && decide (n ≤ hi)) = false := by rw [← Bool.decide_and]; simpa using h
    rw [this], hw⟩

end Go.Proofs.YtpdkgpbfmpekgaaGreatDoor
