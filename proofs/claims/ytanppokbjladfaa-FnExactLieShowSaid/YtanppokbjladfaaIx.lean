


/- Spots and indexes: the functions that only look at them. -/
import Derived.Test.YtanppokbjladfaaBst
import Derived.Test.YtanppokbjladfaaIn6
import Derived.Test.YtanppokbjladfaaInts
namespace Go.Proofs.Ytanppokbjladfaa
open Go.RowKit

abbrev RSp : Rep Sp := RFlat FSp
theorem RSp.loc : Loc RSp := RFlat.loc FSp
theorem sp_at {w : World} {lo hi : Nat} {xs : List Sp} {A : Option Addr} {n c : Nat} (h : RSl RSp 2 w lo hi xs [.slice A n c]) {k : Nat} {x : Sp} (hk : xs[k]? = some x) :
    ∃ b off, A = some ⟨b, off, none⟩ ∧ lo ≤ b ∧ b < hi ∧ (In64 x.n ∧ In64 x.p) ∧ w.cell? ⟨b, off + k * 2, none⟩ = some (.int .i64 x.n) ∧ w.cell? ⟨b, off + k * 2 + 1, none⟩ = some (.int .i64 x.p) := by
  obtain ⟨b, off, es, rfl, h1, h2, hl, ⟨rfl, h64⟩, hc⟩ := h.at_ hk
  exact ⟨b, off, rfl, h1, h2, h64, by simpa using hc 0 _ rfl, hc 1 _ rfl⟩

theorem ix_snoc {xs : List Sp} {x : Sp} : ixP (xs ++ [x]) ↔ ixP xs ∧ spP x ∧ ∀ y ∈ xs, y.n < x.n := by
  unfold ixP ascS
  rw [List.pairwise_append]
  constructor
  · intro ⟨h1, h2, _, h3⟩
    exact ⟨⟨fun y hy => h1 y (by simp [hy]), h2⟩, h1 x (by simp), fun y hy => h3 y hy x (by simp)⟩
  · intro ⟨⟨h1, h2⟩, h3, h4⟩
    refine ⟨fun y hy => ?_, h2, List.pairwise_singleton _ _, fun a ha b hb => ?_⟩
    · rcases List.mem_append.1 hy with hy | hy
      · exact h1 y hy
      · rw [List.mem_singleton.1 hy]; exact h3
    · rw [List.mem_singleton.1 hb]; exact h4 a ha
theorem ix_nil : ixP [] := ⟨fun x h => (by cases h), List.Pairwise.nil⟩
theorem ix_take {xs : List Sp} (h : ixP xs) (k : Nat) : ixP (xs.take k) := ⟨fun x hx => h.1 x (List.mem_of_mem_take hx), List.Pairwise.sublist (List.take_sublist k xs) h.2⟩
theorem ix_yes0 {xs : List Sp} {x : Sp} (hx : xs[0]? = some x) (h : spP x) : ixP (xs.take 1) := by
  have := take_succ hx
  rw [this]
  exact ix_snoc.2 ⟨ix_nil, h, fun y hy => by cases hy⟩
theorem ix_yes {xs : List Sp} {x y : Sp} {j : Nat} (hn : ixP (xs.take (j + 1))) (hy : xs[j]? = some y) (hx : xs[j + 1]? = some x) (h : spP x) (hlt : y.n < x.n) : ixP (xs.take (j + 1 + 1)) := by
  rw [take_succ hx]
  refine ix_snoc.2 ⟨hn, h, fun z hz => ?_⟩
  rw [take_succ hy] at hz hn
  rcases List.mem_append.1 hz with hz | hz
  · have := (ix_snoc.1 hn).2.2 z hz; omega
  · rw [List.mem_singleton.1 hz]; exact hlt
theorem ix_no {xs : List Sp} {x : Sp} {k : Nat} (hx : xs[k]? = some x) (h : ¬ spP x) : ¬ ixP xs := fun hp => h (hp.1 x (List.mem_of_getElem? hx))
theorem ix_no2 {xs : List Sp} {x y : Sp} {j : Nat} (hy : xs[j]? = some y) (hx : xs[j + 1]? = some x) (h : ¬ y.n < x.n) : ¬ ixP xs := fun hp => by
  have h1 := List.pairwise_iff_getElem.1 hp.2 j (j + 1) (lt_of_some hy) (lt_of_some hx) (by omega)
  rw [(List.getElem?_eq_some_iff.1 hy).2, (List.getElem?_eq_some_iff.1 hx).2] at h1
  exact h h1

theorem l6In_is (n lo hi : Int) (w : World) (b : Bool) (hb : b = true ↔ lo ≤ n ∧ n ≤ hi) :
    Calls Try.prog 72 #[.int .i64 n, .int .i64 lo, .int .i64 hi] w fun e w' => e = .returned (.bool b) ∧ w = w' :=
  (l6In_any n lo hi w).mono fun e w' ⟨h, hw⟩ => ⟨by
    rw [h]
    have : (decide (lo ≤ n) && decide (n ≤ hi)) = b := by rw [Bool.eq_iff_iff, hb]; simp
    rw [this], hw⟩
theorem nameIn_any (n : Int) (w : World) (b : Bool) (hb : b = true ↔ 0 ≤ n ∧ n ≤ 999999999988) :
    Calls Try.prog 82 #[.int .i64 n] w fun e w' => e = .returned (.bool b) ∧ w = w' := by
  have HB := Lib.hid hb; clear hb
  go_enter Try.func82, Try.ntmps82
  by_cases h1 : 0 ≤ n
  · by_cases h2 : n < 999999999989
    · go_wp2_with fail
      go_ret
      exact ⟨ret_bool (by rw [eq_comm, HB.out]; omega), rfl⟩
    · go_wp2_with fail
      go_ret
      exact ⟨ret_bool (by rw [eq_comm, ← Bool.not_eq_true, HB.out]; omega), rfl⟩
  · go_wp2_with fail
    go_ret
    exact ⟨ret_bool (by rw [eq_comm, ← Bool.not_eq_true, HB.out]; omega), rfl⟩
theorem spotOk_any (s : Sp) (w : World) (b : Bool) (hb : b = true ↔ spP s) :
    Calls Try.prog 46 #[.agg #[.int .i64 s.n, .int .i64 s.p]] w fun e w' => e = .returned (.bool b) ∧ Below w.heap.size w w' := by
  have HB := Lib.hid hb; clear hb
  have ba := below_alloc w (.cells #[.int .i64 s.n, .int .i64 s.p] 77)
  go_enter Try.func46, Try.ntmps46
  by_cases h1 : 0 ≤ s.n ∧ s.n ≤ 999999999988
  · go_wp2_with fail
    refine (nameIn_any s.n _ true (by simp only [true_iff]; exact h1)).mono ?_
    rintro e w1 ⟨rfl, rfl⟩
    have H1 := Lib.hid h1; clear h1
    by_cases h2 : 1 ≤ s.p
    · by_cases h3 : s.p ≤ 99
      · have H2 := Lib.hid h2; have H3 := Lib.hid h3
        go_wp2_with fail
        go_ret
        exact ⟨ret_bool (by rw [eq_comm, HB.out]; exact ⟨H1.out, H2.out, H3.out⟩), ba⟩
      · have t3 : decide (s.p ≤ 99) = false := decide_eq_false h3
        have H3 := Lib.hid h3; clear h3
        go_wp2_with fail
        go_ret
        exact ⟨ret_bool (by rw [eq_comm, ← Bool.not_eq_true, HB.out]; exact fun h => by have := H3.out; have := h.2.2; omega), ba⟩
    · have t2 : decide (1 ≤ s.p) = false := decide_eq_false h2
      have H2 := Lib.hid h2; clear h2
      go_wp2_with fail
      go_ret
      exact ⟨ret_bool (by rw [eq_comm, ← Bool.not_eq_true, HB.out]; exact fun h => by have := H2.out; have := h.2.1; omega), ba⟩
  · go_wp2_with fail
    refine (nameIn_any s.n _ false (by simp only [Bool.false_eq_true, false_iff]; exact h1)).mono ?_
    rintro e w1 ⟨rfl, rfl⟩
    have H1 := Lib.hid h1; clear h1
    go_wp2_with fail
    go_ret
    exact ⟨ret_bool (by rw [eq_comm, ← Bool.not_eq_true, HB.out]; exact fun h => H1.out h.1), ba⟩
theorem l4Spot_any (s : Sp) (w : World) (b : Bool) (hb : b = true ↔ spP s) :
    Calls Try.prog 43 #[.agg #[.int .i64 s.n, .int .i64 s.p]] w fun e w' => e = .returned (.bool b) ∧ Below w.heap.size w w' := by
  have HB := Lib.hid hb; clear hb
  have ba := below_alloc w (.cells #[.int .i64 s.n, .int .i64 s.p] 77)
  go_enter Try.func43, Try.ntmps43
  by_cases h1 : 0 ≤ s.n ∧ s.n ≤ 999999999988
  · go_wp2_with fail
    refine (l6In_is s.n _ _ _ true (by simp only [true_iff]; exact h1)).mono ?_
    rintro e w1 ⟨rfl, rfl⟩
    have H1 := Lib.hid h1; clear h1
    go_wp2_with fail
    refine (l6In_is s.p _ _ _ b (by rw [HB.out]; exact ⟨fun h => h.2, fun h => ⟨H1.out, h⟩⟩)).mono ?_
    rintro e w1 ⟨rfl, rfl⟩
    go_wp2_with fail
    go_ret
    exact ⟨rfl, ba⟩
  · go_wp2_with fail
    refine (l6In_is s.n _ _ _ false (by simp only [Bool.false_eq_true, false_iff]; exact h1)).mono ?_
    rintro e w1 ⟨rfl, rfl⟩
    have H1 := Lib.hid h1; clear h1
    go_wp2_with fail
    go_ret
    exact ⟨ret_bool (by rw [eq_comm, ← Bool.not_eq_true, HB.out]; exact fun h => H1.out h.1), ba⟩
set_option maxHeartbeats 2000000 in
theorem implIndexOk_any (xs : List Sp) (v : Value) (w : World) (lo hi : Nat) (hhi : hi ≤ w.heap.size) (h : RSl RSp 2 w lo hi xs [v]) (b : Bool) (hb : b = true ↔ ixP xs) :
    Calls Try.prog 25 #[v] w fun e w' => e = .returned (.bool b) ∧ Below w.heap.size w w' := by
  have HB := Lib.hid hb; clear hb
  obtain ⟨A, c, rfl⟩ := h.form
  obtain ⟨_, hc, hx⟩ := h.len_
  unfold maxLen at hx
  go_enter Try.func25, Try.ntmps25
  go_wp2_with fail
  go_loopw [7] (fun i wr => ∃ k : Nat, k ≤ xs.length ∧ i = .int .i64 k ∧ ixP (xs.take k) ∧ Below w.heap.size w wr) (fun i _ => xs.length - (intOf i).toNat)
  case atStart => exact ⟨0, Nat.zero_le _, rfl, ix_nil, Below.refl _ _⟩
  case round =>
    obtain ⟨k, hk, rfl, hn, hbr⟩ := hrel
    have HN := Lib.hid hn; clear hn
    have g2 := sl_keep RSp.loc h hbr hhi
    by_cases hlt : k < xs.length
    · obtain ⟨x, hxk⟩ := some_of_lt hlt
      obtain ⟨b1, off, rfl, _, _, h64, hcell, hcell1⟩ := sp_at g2 hxk
      have HX := Lib.hid hxk; clear hxk
      have hba := below_alloc wr (.cells #[.int .i64 x.n, .int .i64 x.p] 77)
      have n0 := new_cell wr #[.int .i64 x.n, .int .i64 x.p] 77 0 rfl
      have n1 := new_cell wr #[.int .i64 x.n, .int .i64 x.p] 77 1 rfl
      have hbz := hbr.trans (hba.mono hbr.size)
      have hprev : k = 0 ∨ ∃ j y, k = j + 1 ∧ xs[j]? = some y ∧ wr.cell? ⟨b1, off + j * 2, none⟩ = some (.int .i64 y.n) := by
        rcases Nat.eq_zero_or_pos k with h0 | h0
        · exact .inl h0
        · obtain ⟨y, hyk⟩ := some_of_lt (l := xs) (k := k - 1) (by omega)
          obtain ⟨b2, off2, hbo, _, _, _, hcell3, _⟩ := sp_at g2 hyk
          simp only [Option.some.injEq, Addr.mk.injEq, and_true] at hbo
          obtain ⟨rfl, rfl⟩ := hbo
          exact .inr ⟨k - 1, y, by omega, hyk, hcell3⟩
      by_cases p1 : spP x
      · have H1 := Lib.hid p1; clear p1
        rcases hprev with rfl | ⟨j, y, rfl, hyk, hcell3⟩
        · simp only [Nat.zero_mul, Nat.add_zero] at hcell hcell1
          have hnext := ix_yes0 HX.out H1.out
          have HK := Lib.hid hnext; clear hnext
          go_wp2_with fail
          generalize wr.alloc (.cells #[.int .i64 x.n, .int .i64 x.p] 77) = wa at *
          have past0 := past_cell n0
          have past1 := past_cell n1
          refine region_past (by kernel_rfl) (by kernel_rfl) ?_
          repeat (go_big_quiet_step (first | (go_at_call 46; refine past_call (spotOk_any x _ true ?_); (simp only [true_iff]; exact H1.out))))
          refine wpQuiet_nil ?_
          intro wq hw1
          have hq := past_out hw1
          clear hw1 past0 past1
          replace hbz := hbz.trans (hq.mono hbz.size)
          go_wp2_with fail
          go_roundw
          case rel => first | exact ⟨1, by omega, by go_num, HK.out, hbz⟩ | ((repeat apply Exists.intro); refine ⟨?_, rfl⟩; exact ⟨1, by omega, by go_num, HK.out, hbz⟩)
          case measure => simp [intOf]; omega
        · have HY := Lib.hid hyk; clear hyk
          have m0 := cell_keep hba hcell3
          by_cases p2 : y.n < x.n
          · have hnext := ix_yes HN.out HY.out HX.out H1.out p2
            have HK := Lib.hid hnext; clear hnext
            have tm : decide (x.n ≤ y.n) = false := decide_eq_false (by omega)
            have H2 := Lib.hid p2; clear p2
            go_wp2_with fail
            generalize wr.alloc (.cells #[.int .i64 x.n, .int .i64 x.p] 77) = wa at *
            have past0 := past_cell n0
            have past1 := past_cell n1
            have past2 := past_cell m0
            refine region_past (by kernel_rfl) (by kernel_rfl) ?_
            repeat (go_big_quiet_step (first | (go_at_call 46; refine past_call (spotOk_any x _ true ?_); (simp only [true_iff]; exact H1.out))))
            refine wpQuiet_nil ?_
            intro wq hw1
            have hq := past_out hw1
            clear hw1 past0 past1 past2
            replace hbz := hbz.trans (hq.mono hbz.size)
            go_wp2_with fail
            go_roundw
            case rel => first | exact ⟨j + 1 + 1, by omega, by go_num, HK.out, hbz⟩ | ((repeat apply Exists.intro); refine ⟨?_, rfl⟩; exact ⟨j + 1 + 1, by omega, by go_num, HK.out, hbz⟩)
            case measure => simp [intOf]; omega
          · have hf : b = false := by rw [← Bool.not_eq_true, HB.out]; exact ix_no2 HY.out HX.out p2
            have tm : decide (x.n ≤ y.n) = true := decide_eq_true (by omega)
            have HF := Lib.hid hf; clear hf
            have H2 := Lib.hid p2; clear p2
            go_wp2_with fail
            generalize wr.alloc (.cells #[.int .i64 x.n, .int .i64 x.p] 77) = wa at *
            have past0 := past_cell n0
            have past1 := past_cell n1
            have past2 := past_cell m0
            refine region_past (by kernel_rfl) (by kernel_rfl) ?_
            repeat (go_big_quiet_step (first | (go_at_call 46; refine past_call (spotOk_any x _ true ?_); (simp only [true_iff]; exact H1.out))))
            refine wpQuiet_nil ?_
            intro wq hw1
            have hq := past_out hw1
            clear hw1 past0 past1 past2
            replace hbz := hbz.trans (hq.mono hbz.size)
            go_wp2_with fail
            go_ret
            exact ⟨ret_bool HF.out.symm, hbz⟩
      · have hf : b = false := by rw [← Bool.not_eq_true, HB.out]; exact ix_no HX.out p1
        have HF := Lib.hid hf; clear hf
        have H1 := Lib.hid p1; clear p1 hprev
        go_wp2_with fail
        generalize wr.alloc (.cells #[.int .i64 x.n, .int .i64 x.p] 77) = wa at *
        have past0 := past_cell n0
        have past1 := past_cell n1
        refine region_past (by kernel_rfl) (by kernel_rfl) ?_
        repeat (go_big_quiet_step (first | (go_at_call 46; refine past_call (spotOk_any x _ false ?_); (simp only [Bool.false_eq_true, false_iff]; exact H1.out))))
        refine wpQuiet_nil ?_
        intro wq hw1
        have hq := past_out hw1
        clear hw1 past0 past1
        replace hbz := hbz.trans (hq.mono hbz.size)
        go_wp2_with fail
        go_ret
        exact ⟨ret_bool HF.out.symm, hbz⟩
    · obtain rfl : k = xs.length := by omega
      have hall : ixP xs := by have := HN.out; rwa [List.take_length] at this
      have HA := Lib.hid hall; clear hall HN
      go_wp2_with fail
      go_ret
      exact ⟨ret_bool (by rw [eq_comm, HB.out]; exact HA.out), hbr⟩
end Go.Proofs.Ytanppokbjladfaa
