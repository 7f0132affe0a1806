/- Contracts of the functions on samples: what each computes, whatever the world. -/
import Derived.Test.YtahdphhlmblacaaIn6
import Derived.Test.YtahdphhlmblacaaPl
namespace Go.Proofs.Ytahdphhlmblacaa
open Go.RowKit

theorem row0 (w : World) : IRow (w.alloc (Obj.cells #[.int .i64 1, .int .i64 0, .int .i64 0, .int .i64 0, .int .i64 0, .int .i64 0, .int .i64 0, .int .i64 0, .int .i64 0, .int .i64 0, .int .i64 0, .int .i64 0, .int .i64 0, .int .i64 0, .int .i64 0, .int .i64 0, .int .i64 0, .int .i64 0, .int .i64 0, .int .i64 0, .int .i64 0] 45)) w.heap.size 45 21 (fun j => (bin 0 j : Int)) := by
  refine ⟨_, Blk.new _ _ _, rfl, fun j hj => ?_⟩
  rcases j with _ | j
  · rfl
  · show _ = some (Value.int .i64 ((0 : Nat) : Int))
    simp only [List.getElem?_toArray, List.getElem?_cons_succ]
    exact (List.getElem?_replicate_of_lt (n := 20) (a := Value.int .i64 ((0 : Nat) : Int)) (by omega))

theorem choose_any (m d : Nat) (hm : m ≤ 20) (hd : d ≤ m) (w : World) :
    Calls Try.prog 32 #[.int .i64 m, .int .i64 d] w fun e w' => e = .returned (.int .i64 (bin m d)) ∧ Below w.heap.size w w' := by
  go_enter Try.func32, Try.ntmps32
  go_wp2
  go_loopw [6] (fun i wr => ∃ n : Nat, 1 ≤ n ∧ n ≤ m + 1 ∧ i = .int .i64 n ∧ IRow wr w.heap.size 45 21 (fun j => (bin (n - 1) j : Int)) ∧ Below w.heap.size w wr) (fun i _ => (m + 1) - (intOf i).toNat)
  case atStart => exact ⟨1, by omega, by omega, rfl, row0 w, (Below.refl _ _).alloc (Nat.le_refl _) _⟩
  case round =>
    obtain ⟨n, hn1, hn2, rfl, hrow, hb⟩ := hrel
    by_cases hlt : n ≤ m
    · go_wp2
      go_loopw [7] (fun i wi => ∃ k : Nat, k ≤ n ∧ i = .int .i64 k ∧ IRow wi w.heap.size 45 21 (mix n k) ∧ Below w.heap.size w wi) (fun i _ => (intOf i).toNat)
      case atStart => exact ⟨n, by omega, rfl, hrow.congr fun j _ => (mix_start n j hn1).symm, hb⟩
      case round =>
        obtain ⟨k, hk, rfl, hri, hbi⟩ := hrel
        by_cases hk0 : 0 < k
        · have c1 := hri.cell (j := k) (by omega)
          have c2 := hri.cell (j := k - 1) (by omega)
          have fz := hri.frozen k
          have b1 := mix_bd n k k (by omega)
          have b2 := mix_bd n k (k - 1) (by omega)
          go_wp2
          go_region
          go_wp2
          refine ⟨⟨k - 1, by omega, by rw [Int.natCast_sub (by omega)]; rfl, (hri.set_ k _ fun j _ => mix_step n k j hn1 hk0).drew, (hbi.setCell (Nat.le_refl _) _).drew⟩, by simp [intOf]; omega⟩
        · obtain rfl : k = 0 := by omega
          go_wp2
          refine ⟨⟨n + 1, by omega, by omega, by go_num, hri.congr fun j _ => ?_, hbi⟩, by simp [intOf]; omega⟩
          rw [mix_end]; rfl
    · obtain rfl : n = m + 1 := by omega
      have c := hrow.cell (j := d) (by omega)
      go_wp2
      go_ret
      exact ⟨rfl, hb⟩


theorem l41All_any (m d : Nat) (hm : m ≤ 20) (hd : d ≤ m) (w : World) :
    Calls Try.prog 31 #[.int .i64 m, .int .i64 d] w fun e w' => e = .returned (.int .i64 (bin m d)) ∧ w = w' := by
  go_enter Try.func31, Try.ntmps31
  go_wp2
  go_loop [5, 6] (fun n i => ∃ k : Nat, k ≤ d ∧ i = .int .i64 (k + 1) ∧ n = .int .i64 (bin (m - d + k) k)) (fun _ i => d + 1 - (intOf i).toNat)
  case atStart => exact ⟨0, by omega, rfl, by rw [bin_zero]; rfl⟩
  case round =>
    obtain ⟨k, hk, rfl, rfl⟩ := hrel
    have hb := bin_le (m - d + k) k (by omega)
    by_cases hlt : k < d
    · have hs := bin_next (m - d) k
      go_wp2
      refine ⟨⟨k + 1, by omega, by go_num, ?_⟩, by simp [intOf]; omega⟩
      rw [all_step m d k _ hm hd hlt hb, hs]
    · obtain rfl : k = d := by omega
      go_wp2
      go_ret
      exact ⟨rfl, rfl⟩

/-- spec.SampleAll, whatever the arguments. -/
theorem specAll_any (m d : Int) (w : World) :
    Calls Try.prog 15 #[.int .i64 m, .int .i64 d] w fun e w' => e = .returned (.int .i64 (sAll m d)) ∧ w = w' := by
  by_cases h1 : 0 ≤ m ∧ m ≤ 20
  · by_cases h2 : 0 ≤ d ∧ d ≤ m
    · obtain ⟨m, rfl⟩ := Int.eq_ofNat_of_zero_le h1.1
      obtain ⟨d, rfl⟩ := Int.eq_ofNat_of_zero_le h2.1
      rw [sAll_nat m d (by omega) (by omega)]
      go_enter Try.func15, Try.ntmps15
      go_wp2_with fail
      refine (l6In_yes _ _ _ h1.1 h1.2 _).mono ?_
      rintro e w' ⟨rfl, rfl⟩
      go_wp2_with fail
      refine (l6In_yes _ _ _ h2.1 h2.2 _).mono ?_
      rintro e w' ⟨rfl, rfl⟩
      go_wp2_with fail
      refine (l41All_any m d (by omega) (by omega) _).mono ?_
      rintro e w' ⟨rfl, rfl⟩
      go_wp2_with fail
      go_ret
      exact ⟨rfl, rfl⟩
    · rw [sAll_no m d (by omega)]
      go_enter Try.func15, Try.ntmps15
      go_wp2_with fail
      refine (l6In_yes _ _ _ h1.1 h1.2 _).mono ?_
      rintro e w' ⟨rfl, rfl⟩
      go_wp2_with fail
      refine (l6In_no _ _ _ h2 _).mono ?_
      rintro e w' ⟨rfl, rfl⟩
      go_wp2_with fail
      go_ret
      exact ⟨rfl, rfl⟩
  · rw [sAll_no m d (by omega)]
    go_enter Try.func15, Try.ntmps15
    go_wp2_with fail
    refine (l6In_no _ _ _ h1 _).mono ?_
    rintro e w' ⟨rfl, rfl⟩
    go_wp2_with fail
    go_ret
    exact ⟨rfl, rfl⟩

/-- impl.SampleAll, whatever the arguments. -/
theorem implAll_any (m d : Int) (w : World) :
    Calls Try.prog 16 #[.int .i64 m, .int .i64 d] w fun e w' => e = .returned (.int .i64 (sAll m d)) ∧ Below w.heap.size w w' := by
  by_cases h1 : m < 0
  · rw [sAll_no m d (by omega)]
    go_enter Try.func16, Try.ntmps16
    go_wp2_with fail
    go_ret
    exact ⟨rfl, Below.refl _ _⟩
  by_cases h2 : 20 < m
  · rw [sAll_no m d (by omega)]
    go_enter Try.func16, Try.ntmps16
    go_wp2_with fail
    go_ret
    exact ⟨rfl, Below.refl _ _⟩
  by_cases h3 : d < 0
  · rw [sAll_no m d (by omega)]
    go_enter Try.func16, Try.ntmps16
    go_wp2_with fail
    go_ret
    exact ⟨rfl, Below.refl _ _⟩
  by_cases h4 : m < d
  · rw [sAll_no m d (by omega)]
    go_enter Try.func16, Try.ntmps16
    go_wp2_with fail
    go_ret
    exact ⟨rfl, Below.refl _ _⟩
  · obtain ⟨m, rfl⟩ := Int.eq_ofNat_of_zero_le (show 0 ≤ m by omega)
    obtain ⟨d, rfl⟩ := Int.eq_ofNat_of_zero_le (show 0 ≤ d by omega)
    rw [sAll_nat m d (by omega) (by omega)]
    go_enter Try.func16, Try.ntmps16
    go_wp2_with fail
    refine (choose_any m d (by omega) (by omega) _).mono ?_
    rintro e w' ⟨rfl, hb⟩
    go_wp2_with fail
    go_ret
    exact ⟨rfl, hb⟩

/-- spec.SampleMiss, whatever the arguments. -/
theorem specMiss_any (m l d : Int) (w : World) :
    Calls Try.prog 17 #[.int .i64 m, .int .i64 l, .int .i64 d] w fun e w' => e = .returned (.int .i64 (sMiss m l d)) ∧ w = w' := by
  by_cases h1 : 0 ≤ m ∧ m ≤ 20
  · by_cases h2 : 0 ≤ l ∧ l ≤ m
    · have hv : sMiss m l d = sAll (m - l) d := by unfold sMiss; rw [if_pos (by omega)]
      rw [hv]; clear hv
      go_enter Try.func17, Try.ntmps17
      go_wp2_with fail
      refine (l6In_yes _ _ _ h1.1 h1.2 _).mono ?_
      rintro e w' ⟨rfl, rfl⟩
      go_wp2_with fail
      refine (l6In_yes _ _ _ h2.1 h2.2 _).mono ?_
      rintro e w' ⟨rfl, rfl⟩
      go_wp2_with fail
      refine (specAll_any _ _ _).mono ?_
      rintro e w' ⟨rfl, rfl⟩
      go_wp2_with fail
      go_ret
      exact ⟨rfl, rfl⟩
    · have hv : sMiss m l d = 0 := by unfold sMiss; rw [if_neg (by omega)]
      rw [hv]; clear hv
      go_enter Try.func17, Try.ntmps17
      go_wp2_with fail
      refine (l6In_yes _ _ _ h1.1 h1.2 _).mono ?_
      rintro e w' ⟨rfl, rfl⟩
      go_wp2_with fail
      refine (l6In_no _ _ _ h2 _).mono ?_
      rintro e w' ⟨rfl, rfl⟩
      go_wp2_with fail
      go_ret
      exact ⟨rfl, rfl⟩
  · have hv : sMiss m l d = 0 := by unfold sMiss; rw [if_neg (by omega)]
    rw [hv]; clear hv
    go_enter Try.func17, Try.ntmps17
    go_wp2_with fail
    refine (l6In_no _ _ _ h1 _).mono ?_
    rintro e w' ⟨rfl, rfl⟩
    go_wp2_with fail
    go_ret
    exact ⟨rfl, rfl⟩

/-- impl.SampleMiss, whatever the arguments. -/
theorem implMiss_any (m l d : Int) (w : World) :
    Calls Try.prog 18 #[.int .i64 m, .int .i64 l, .int .i64 d] w fun e w' => e = .returned (.int .i64 (sMiss m l d)) ∧ Below w.heap.size w w' := by
  by_cases h : 0 ≤ m ∧ m ≤ 20 ∧ 0 ≤ l ∧ l ≤ m
  · have hv : sMiss m l d = sAll (m - l) d := by unfold sMiss; rw [if_pos h]
    rw [hv]; clear hv
    obtain ⟨h1, h2, h3, h4⟩ := h
    go_enter Try.func18, Try.ntmps18
    go_wp2_with fail
    refine (implAll_any _ _ _).mono ?_
    rintro e w' ⟨rfl, hb⟩
    go_wp2_with fail
    go_ret
    exact ⟨rfl, hb⟩
  · have hv : sMiss m l d = 0 := by unfold sMiss; rw [if_neg h]
    rw [hv]; clear hv
    rcases (by omega : m < 0 ∨ (0 ≤ m ∧ 20 < m) ∨ ((0 ≤ m ∧ m ≤ 20) ∧ l < 0) ∨ ((0 ≤ m ∧ m ≤ 20) ∧ 0 ≤ l ∧ m < l)) with h | h | h | h
    all_goals
      go_enter Try.func18, Try.ntmps18
      go_wp2_with fail
      go_ret
      exact ⟨rfl, Below.refl _ _⟩

/-- spec.SampleEnough, whatever the arguments. -/
theorem specEnough_any (m l o : Int) (w : World) :
    Calls Try.prog 24 #[.int .i64 m, .int .i64 l, .int .i64 o] w fun e w' => e = .returned (.int .i64 (sEnough m l o)) ∧ w = w' := by
  by_cases h1 : 1 ≤ m ∧ m ≤ 20
  · by_cases h2 : 1 ≤ l ∧ l ≤ m
    · by_cases h3 : 1 ≤ o ∧ o ≤ 999
      · have hv : sEnough m l o = enoughFrom m l o 21 0 := by unfold sEnough; rw [if_pos (by omega)]
        rw [hv]
        clear hv
        obtain ⟨m, rfl⟩ := Int.eq_ofNat_of_zero_le (show 0 ≤ m by omega)
        obtain ⟨l, rfl⟩ := Int.eq_ofNat_of_zero_le (show 0 ≤ l by omega)
        obtain ⟨h11, h12⟩ := h1; obtain ⟨h21, h22⟩ := h2; obtain ⟨h31, h32⟩ := h3
        go_enter Try.func24, Try.ntmps24
        go_wp2_with fail
        refine (l6In_yes _ _ _ h11 h12 _).mono ?_
        rintro e w' ⟨rfl, rfl⟩
        go_wp2_with fail
        refine (l6In_yes _ _ _ h21 h22 _).mono ?_
        rintro e w' ⟨rfl, rfl⟩
        go_wp2_with fail
        refine (l6In_yes _ _ _ h31 h32 _).mono ?_
        rintro e w' ⟨rfl, rfl⟩
        go_wp2_with fail
        go_loop [7] (fun i => ∃ d : Nat, (d : Int) ≤ (m : Int) - l + 1 ∧ i = .int .i64 d ∧ enoughFrom m l o 21 0 = enoughFrom m l o (21 - d) d) (fun i => 22 - (intOf i).toNat)
        case atStart => exact ⟨0, by omega, rfl, rfl⟩
        case round =>
          obtain ⟨d, hd, rfl, he⟩ := hrel
          have HE := Lib.hid he; clear he
          have b1 := sAll_bd m d
          have b2 := sMiss_mul m l d o h31 h32
          have hs : sAll m d = (bin m d : Int) := sAll_nat m d (by omega) (by omega)
          by_cases ht : sAll m d < sMiss m l d * o
          · have hm := enough_more m l o d ht
            rw [hs] at ht b1
            have HS := Lib.hid hs; clear hs
            go_wp2_with fail
            refine (specMiss_any _ _ _ _).mono ?_
            rintro e w' ⟨rfl, rfl⟩
            go_wp2_with fail
            refine (l41All_any m d (by omega) (by omega) _).mono ?_
            rintro e w' ⟨rfl, rfl⟩
            go_wp2_with fail
            go_round
            case rel =>
              refine ⟨d + 1, by omega, by go_num, ?_⟩
              rw [HE.out, show 21 - d = (21 - (d + 1)) + 1 from by omega, enough_step _ _ _ _ _ (by rw [HS.out]; exact ht)]
            case measure => simp [intOf]; omega
          · have hx := enough_stop m l o (20 - d) d ht
            rw [hs] at ht b1
            clear hs
            have HX := Lib.hid hx; clear hx
            go_wp2_with fail
            refine (specMiss_any _ _ _ _).mono ?_
            rintro e w' ⟨rfl, rfl⟩
            go_wp2_with fail
            refine (l41All_any m d (by omega) (by omega) _).mono ?_
            rintro e w' ⟨rfl, rfl⟩
            go_wp2_with fail
            go_ret
            refine ⟨ret_int ?_, rfl⟩
            rw [HE.out, show 21 - d = (20 - d) + 1 from by omega, HX.out]
      · have hv : sEnough m l o = -1 := by unfold sEnough; rw [if_neg (by omega)]
        rw [hv]; clear hv
        go_enter Try.func24, Try.ntmps24
        go_wp2_with fail
        refine (l6In_yes _ _ _ h1.1 h1.2 _).mono ?_
        rintro e w' ⟨rfl, rfl⟩
        go_wp2_with fail
        refine (l6In_yes _ _ _ h2.1 h2.2 _).mono ?_
        rintro e w' ⟨rfl, rfl⟩
        go_wp2_with fail
        refine (l6In_no _ _ _ h3 _).mono ?_
        rintro e w' ⟨rfl, rfl⟩
        go_wp2_with fail
        go_ret
        exact ⟨rfl, rfl⟩
    · have hv : sEnough m l o = -1 := by unfold sEnough; rw [if_neg (by omega)]
      rw [hv]; clear hv
      go_enter Try.func24, Try.ntmps24
      go_wp2_with fail
      refine (l6In_yes _ _ _ h1.1 h1.2 _).mono ?_
      rintro e w' ⟨rfl, rfl⟩
      go_wp2_with fail
      refine (l6In_no _ _ _ h2 _).mono ?_
      rintro e w' ⟨rfl, rfl⟩
      go_wp2_with fail
      go_ret
      exact ⟨rfl, rfl⟩
  · have hv : sEnough m l o = -1 := by unfold sEnough; rw [if_neg (by omega)]
    rw [hv]; clear hv
    go_enter Try.func24, Try.ntmps24
    go_wp2_with fail
    refine (l6In_no _ _ _ h1 _).mono ?_
    rintro e w' ⟨rfl, rfl⟩
    go_wp2_with fail
    go_ret
    exact ⟨rfl, rfl⟩

/-- impl.SampleEnough, whatever the arguments. -/
theorem implEnough_any (m l o : Int) (w : World) :
    Calls Try.prog 25 #[.int .i64 m, .int .i64 l, .int .i64 o] w fun e w' => e = .returned (.int .i64 (sEnough m l o)) ∧ Below w.heap.size w w' := by
  by_cases h : 1 ≤ m ∧ m ≤ 20 ∧ 1 ≤ l ∧ l ≤ m ∧ 1 ≤ o ∧ o ≤ 999
  · have hv : sEnough m l o = enoughFrom m l o 21 0 := by unfold sEnough; rw [if_pos h]
    rw [hv]
    clear hv
    obtain ⟨h11, h12, h21, h22, h31, h32⟩ := h
    go_enter Try.func25, Try.ntmps25
    go_wp2_with fail
    go_loopw [7] (fun i wr => ∃ d : Nat, (d : Int) ≤ m - l + 1 ∧ i = .int .i64 d ∧ enoughFrom m l o 21 0 = enoughFrom m l o (21 - d) d ∧ Below w.heap.size w wr) (fun i _ => 22 - (intOf i).toNat)
    case atStart => exact ⟨0, by omega, rfl, rfl, Below.refl _ _⟩
    case round =>
      obtain ⟨d, hd, rfl, he, hb⟩ := hrel
      have HE := Lib.hid he; clear he
      have b1 := sAll_bd m d
      have b2 := sMiss_mul m l d o h31 h32
      by_cases ht : sAll m d < sMiss m l d * o
      · have hm := enough_more m l o d ht
        go_wp2_with fail
        refine (implMiss_any _ _ _ _).mono ?_
        rintro e w1 ⟨rfl, hb1⟩
        go_wp2_with fail
        refine (implAll_any _ _ _).mono ?_
        rintro e w2 ⟨rfl, hb2⟩
        go_wp2_with fail
        go_roundw
        case rel =>
          refine ⟨d + 1, by omega, by go_num, ?_, (hb.trans (hb1.mono hb.size)).trans (hb2.mono (Nat.le_trans hb.size hb1.size))⟩
          rw [HE.out, show 21 - d = (21 - (d + 1)) + 1 from by omega, enough_step _ _ _ _ _ ht]
        case measure => simp [intOf]; omega
      · have hx := enough_stop m l o (20 - d) d ht
        have HX := Lib.hid hx; clear hx
        go_wp2_with fail
        refine (implMiss_any _ _ _ _).mono ?_
        rintro e w1 ⟨rfl, hb1⟩
        go_wp2_with fail
        refine (implAll_any _ _ _).mono ?_
        rintro e w2 ⟨rfl, hb2⟩
        go_wp2_with fail
        go_ret
        refine ⟨ret_int ?_, (hb.trans (hb1.mono hb.size)).trans (hb2.mono (Nat.le_trans hb.size hb1.size))⟩
        rw [HE.out, show 21 - d = (20 - d) + 1 from by omega, HX.out]
  · have hv : sEnough m l o = -1 := by unfold sEnough; rw [if_neg h]
    rw [hv]; clear hv
    rcases (by omega : m < 1 ∨ (1 ≤ m ∧ 20 < m) ∨ ((1 ≤ m ∧ m ≤ 20) ∧ l < 1) ∨ ((1 ≤ m ∧ m ≤ 20) ∧ 1 ≤ l ∧ m < l) ∨ ((1 ≤ m ∧ m ≤ 20) ∧ (1 ≤ l ∧ l ≤ m) ∧ o < 1) ∨ ((1 ≤ m ∧ m ≤ 20) ∧ (1 ≤ l ∧ l ≤ m) ∧ 1 ≤ o ∧ 999 < o)) with h | h | h | h | h | h
    all_goals
      go_enter Try.func25, Try.ntmps25
      go_wp2_with fail
      go_ret
      exact ⟨rfl, Below.refl _ _⟩
end Go.Proofs.Ytahdphhlmblacaa
