


/- Spots and indexes: the functions that only look at them. -/
import Derived.Test.YtpdkgpbfmpekgaaGreatDoorBst
import Derived.Test.YtpdkgpbfmpekgaaGreatDoorIn6
import Derived.Test.YtpdkgpbfmpekgaaGreatDoorInts
namespace Go.Proofs.YtpdkgpbfmpekgaaGreatDoor
open Go.RowKit

abbrev RSp : Rep Sp := RFlat FSp
theorem RSp.loc : Loc RSp := RFlat.loc FSp
theorem sp_at {w : World} {lo hi : Nat} {xs : List Sp} {A : Option Addr} {n c : Nat} (h : RSl RSp 2 w lo hi xs [.slice A n c]) {k : Nat} {x : Sp} (hk : xs[k]? = some x) :
    ∃ b off, A = some ⟨b, off, none⟩ ∧ lo ≤ b ∧ b < hi ∧ (In64 x.n ∧ In64 x.p) ∧ w.cell? ⟨b, off + k * 2, none⟩ = some (.int .i64 x.n) ∧ w.cell? ⟨b, off + k * 2 + 1, none⟩ = some (.int .i64 x.p) := by
  obtain ⟨b, off, es, rfl, h1, h2, hl, ⟨rfl, h64⟩, hc⟩ := h.at_ hk
  exact ⟨b, off, rfl, h1, h2, h64, by simpa using hc 0 _ rfl, hc 1 _ rfl⟩

theorem ix_snoc {xs : List Sp} {x : Sp} : ixP (xs ++ [x]) ↔ ixP xs ∧ spP x ∧ ∀ y ∈ xs, y.n < x.n := by
  unfold ixP ascS
  rw [List.pairwise_append]
  constructor
  · intro ⟨h1, h2, _, h3⟩
    exact ⟨⟨fun y hy => h1 y (by simp [hy]), h2⟩, h1 x (by simp), fun y hy => h3 y hy x (by simp)⟩
  · intro ⟨⟨h1, h2⟩, h3, h4⟩
    refine ⟨fun y hy => ?_, h2, List.pairwise_singleton _ _, fun a ha b hb => ?_⟩
    · rcases List.mem_append.1 hy with hy | hy
      · exact h1 y hy
      · rw [List.mem_singleton.1 hy]; exact h3
    · rw [List.mem_singleton.1 hb]; exact h4 a ha
theorem ix_nil : ixP [] := ⟨fun x h => (by cases h), List.Pairwise.nil⟩
theorem ix_take {xs : List Sp} (h : ixP xs) (k : Nat) : ixP (xs.take k) := ⟨fun x hx => h.1 x (List.mem_of_mem_take hx), List.Pairwise.sublist (List.take_sublist k xs) h.2⟩
theorem ix_yes0 {xs : List Sp} {x : Sp} (hx : xs[0]? = some x) (h : spP x) : ixP (xs.take 1) := by
  have := take_succ hx
  rw [this]
  exact ix_snoc.2 ⟨ix_nil, h, fun y hy => by cases hy⟩
theorem ix_yes {xs : List Sp} {x y : Sp} {j : Nat} (hn : ixP (xs.take (j + 1))) (hy : xs[j]? = some y) (hx : xs[j + 1]? = some x) (h : spP x) (hlt : y.n < x.n) : ixP (xs.take (j + 1 + 1)) := by
  rw [take_succ hx]
  refine ix_snoc.2 ⟨hn, h, fun z hz => ?_⟩
  rw [take_succ hy] at hz hn
  rcases List.mem_append.1 hz with hz | hz
  · have := (ix_snoc.1 hn).2.2 z hz; omega
  · rw [List.mem_singleton.1 hz]; exact hlt
theorem ix_no {xs : List Sp} {x : Sp} {k : Nat} (hx : xs[k]? = some x) (h : ¬ spP x) : ¬ ixP xs := fun hp => h (hp.1 x (List.mem_of_getElem? hx))
theorem ix_no2 {xs : List Sp} {x y : Sp} {j : Nat} (hy : xs[j]? = some y) (hx : xs[j + 1]? = some x) (h : ¬ y.n < x.n) : ¬ ixP xs := fun hp => by
  have h1 := List.pairwise_iff_getElem.1 hp.2 j (j + 1) (lt_of_some hy) (lt_of_some hx) (by omega)
  rw [(List.getElem?_eq_some_iff.1 hy).2, (List.getElem?_eq_some_iff.1 hx).2] at h1
  exact h h1

theorem l6In_is (n lo hi : Int) (w : World) (b : Bool) (hb : b = true ↔ lo ≤ n ∧ n ≤ hi) :
    Calls Tryz.prog 66 #[.int .i64 n, .int .i64 lo, .int .i64 hi] w fun e w' => e = .returned (.bool b) ∧ w = w' :=
  (l6In_any n lo hi w).mono fun e w' ⟨h, hw⟩ => ⟨by
    rw [h]
    have : (decide (lo ≤ n) && decide (n ≤ hi)) = b := by rw [Bool.eq_iff_iff, hb]; simp
    rw [this], hw⟩
theorem nameIn_any (n : Int) (w : World) (b : Bool) (hb : b = true ↔ 0 ≤ n ∧ n ≤ 999999999988) :
    Calls Tryz.prog 154 #[.int .i64 n] w fun e w' => e = .returned (.bool b) ∧ w = w' := by
  have HB := Lib.hid hb; clear hb
  go_enter Tryz.func154, Tryz.ntmps154
  by_cases h1 : 0 ≤ n
  · by_cases h2 : n < 999999999989
    · go_wp2_with fail
      go_ret
      exact ⟨ret_bool (by rw [eq_comm, HB.out]; omega), rfl⟩
    · go_wp2_with fail
      go_ret
      exact ⟨ret_bool (by rw [eq_comm, ← Bool.not_eq_true, HB.out]; omega), rfl⟩
  · go_wp2_with fail
    go_ret
    exact ⟨ret_bool (by rw [eq_comm, ← Bool.not_eq_true, HB.out]; omega), rfl⟩
theorem spotOk_any (s : Sp) (w : World) (b : Bool) (hb : b = true ↔ spP s) :
    Calls Tryz.prog 100 #[.agg #[.int .i64 s.n, .int .i64 s.p]] w fun e w' => e = .returned (.bool b) ∧ Below w.heap.size w w' := by
  have HB := Lib.hid hb; clear hb
  have ba := below_alloc w (.cells #[.int .i64 s.n, .int .i64 s.p] 146)
  go_enter Tryz.func100, Tryz.ntmps100
  by_cases h1 : 0 ≤ s.n ∧ s.n ≤ 999999999988
  · go_wp2_with fail
    refine (nameIn_any s.n _ true (by simp only [true_iff]; exact h1)).mono ?_
    rintro e w1 ⟨rfl, rfl⟩
    have H1 := Lib.hid h1; clear h1
    by_cases h2 : 1 ≤ s.p
    · by_cases h3 : s.p ≤ 99
      · have H2 := Lib.hid h2; have H3 := Lib.hid h3
        go_wp2_with fail
        go_ret
        exact ⟨ret_bool (by rw [eq_comm, HB.out]; exact ⟨H1.out, H2.out, H3.out⟩), ba⟩
      · have t3 : decide (s.p ≤ 99) = false := decide_eq_false h3
        have H3 := Lib.hid h3; clear h3
        go_wp2_with fail
        go_ret
        exact ⟨ret_bool (by rw [eq_comm, ← Bool.not_eq_true, HB.out]; exact fun h => by have := H3.out; have := h.2.2; omega), ba⟩
    · have t2 : decide (1 ≤ s.p) = false := decide_eq_false h2
      have H2 := Lib.hid h2; clear h2
      go_wp2_with fail
      go_ret
      exact ⟨ret_bool (by rw [eq_comm, ← Bool.not_eq_true, HB.out]; exact fun h => by have := H2.out; have := h.2.1; omega), ba⟩
  · go_wp2_with fail
    refine (nameIn_any s.n _ false (by simp only [Bool.false_eq_true, false_iff]; exact h1)).mono ?_
    rintro e w1 ⟨rfl, rfl⟩
    have H1 := Lib.hid h1; clear h1
    go_wp2_with fail
    go_ret
    exact ⟨ret_bool (by rw [eq_comm, ← Bool.not_eq_true, HB.out]; exact fun h => H1.out h.1), ba⟩
theorem l4Spot_any (s : Sp) (w : World) (b : Bool) (hb : b = true ↔ spP s) :
    Calls Tryz.prog 235 #[.agg #[.int .i64 s.n, .int .i64 s.p]] w fun e w' => e = .returned (.bool b) ∧ Below w.heap.size w w' := by
  have HB := Lib.hid hb; clear hb
  have ba := below_alloc w (.cells #[.int .i64 s.n, .int .i64 s.p] 146)
  go_enter Tryz.func235, Tryz.ntmps235
  by_cases h1 : 0 ≤ s.n ∧ s.n ≤ 999999999988
  · go_wp2_with fail
    refine (l6In_is s.n _ _ _ true (by simp only [true_iff]; exact h1)).mono ?_
    rintro e w1 ⟨rfl, rfl⟩
    have H1 := Lib.hid h1; clear h1
    go_wp2_with fail
    refine (l6In_is s.p _ _ _ b (by rw [HB.out]; exact ⟨fun h => h.2, fun h => ⟨H1.out, h⟩⟩)).mono ?_
    rintro e w1 ⟨rfl, rfl⟩
    go_wp2_with fail
    go_ret
    exact ⟨rfl, ba⟩
  · go_wp2_with fail
    refine (l6In_is s.n _ _ _ false (by simp only [Bool.false_eq_true, false_iff]; exact h1)).mono ?_
    rintro e w1 ⟨rfl, rfl⟩
    have H1 := Lib.hid h1; clear h1
    go_wp2_with fail
    go_ret
    exact ⟨ret_bool (by rw [eq_comm, ← Bool.not_eq_true, HB.out]; exact fun h => H1.out h.1), ba⟩
end Go.Proofs.YtpdkgpbfmpekgaaGreatDoor
