


/- Snapshots with their days: right or not, by the reference. -/
import Derived.Test.YtpdbohjgmghgkaaKp
namespace Go.Proofs.Ytpdbohjgmghgkaa
open Go.RowKit

set_option maxHeartbeats 4000000 in
theorem specStampsOk_any (xs : List St) (v : Value) (w : World) (lo hi : Nat) (hhi : hi ≤ w.heap.size) (h : RSl RSt 2 w lo hi xs [v]) (b : Bool) (hb : b = true ↔ stP xs) :
    Calls Try.prog 48 #[v] w fun e w' => e = .returned (.bool b) ∧ Below w.heap.size w w' := by
  have HB := Lib.hid hb; clear hb
  obtain ⟨A, c, rfl⟩ := h.form
  obtain ⟨_, hc, hx⟩ := h.len_
  unfold maxLen at hx
  go_enter Try.func48, Try.ntmps48
  go_wp2_with fail
  go_loopw [3] (fun i wr => ∃ k : Nat, k ≤ xs.length ∧ i = .int .i64 k ∧ stA (xs.take k) ∧ Below w.heap.size w wr) (fun i _ => xs.length - (intOf i).toNat)
  case atStart => exact ⟨0, Nat.zero_le _, rfl, stA_nil, Below.refl _ _⟩
  case round =>
    obtain ⟨k, hk, rfl, hn, hbr⟩ := hrel
    have HN := Lib.hid hn; clear hn
    have g2 := sl_keep RSt.loc h hbr hhi
    by_cases hlt : k < xs.length
    · obtain ⟨x, hxk⟩ := some_of_lt hlt
      obtain ⟨b1, off, rfl, _, _, h64, hcell, hcell1⟩ := st_at g2 hxk
      have HX := Lib.hid hxk; clear hxk
      have hprev : k = 0 ∨ ∃ j y, k = j + 1 ∧ xs[j]? = some y ∧ wr.cell? ⟨b1, off + j * 2, none⟩ = some (.int .i64 y.s) ∧ wr.cell? ⟨b1, off + j * 2 + 1, none⟩ = some (.int .i64 y.d) := by
        rcases Nat.eq_zero_or_pos k with h0 | h0
        · exact .inl h0
        · obtain ⟨y, hyk⟩ := some_of_lt (l := xs) (k := k - 1) (by omega)
          obtain ⟨b2, off2, hbo, _, _, _, hcell3, hcell4⟩ := st_at g2 hyk
          simp only [Option.some.injEq, Addr.mk.injEq, and_true] at hbo
          obtain ⟨rfl, rfl⟩ := hbo
          exact .inr ⟨k - 1, y, by omega, hyk, hcell3, hcell4⟩
      by_cases p1 : 1 ≤ x.s ∧ x.s ≤ 20
      · by_cases p2 : 0 ≤ x.d ∧ x.d ≤ 99
        · have hok : stP1 x := ⟨p1, p2⟩
          have H1 := Lib.hid hok; clear hok
          have P1 := Lib.hid p1; have P2 := Lib.hid p2; clear p1 p2
          rcases hprev with rfl | ⟨j, y, rfl, hyk, hcell3, hcell4⟩
          · simp only [Nat.zero_mul, Nat.add_zero] at hcell hcell1
            have hnext := st_yes0 HX.out H1.out
            have HK := Lib.hid hnext; clear hnext
            go_wp2_with fail
            have past0 := past_cell hcell
            have past1 := past_cell hcell1
            refine region_past (by kernel_rfl) (by kernel_rfl) ?_
            repeat (go_big_quiet_step (fail))
            go_big_quiet_step (first | (go_at_call 93; refine past_same (l6In_is x.s 1 20 _ true ?_); (simp only [true_iff]; exact P1.out)))
            repeat (go_big_quiet_step (fail))
            go_big_quiet_step (first | (go_at_call 93; refine past_same (l6In_is x.d 0 99 _ true ?_); (simp only [true_iff]; exact P2.out)))
            repeat (go_big_quiet_step (fail))
            refine wpQuiet_nil ?_
            intro wq hw1
            have hq := past_out hw1
            clear hw1 past0 past1
            go_wp2_with fail
            go_roundw
            case rel => first | exact ⟨1, by omega, by go_num, HK.out, hbr.trans (hq.mono hbr.size)⟩ | ((repeat apply Exists.intro); refine ⟨?_, rfl⟩; exact ⟨1, by omega, by go_num, HK.out, hbr.trans (hq.mono hbr.size)⟩)
            case measure => simp [intOf]; omega
          · have HY := Lib.hid hyk; clear hyk
            rcases st_pair y x with d1 | ⟨d1, d2⟩ | ⟨d1, d2, hrr⟩
            · have u1 : decide (x.s ≤ y.s) = true := decide_eq_true d1
              have u1' : decide (y.s < x.s) = false := decide_eq_false (by omega)
              have hf : b = false := by rw [← Bool.not_eq_true, HB.out]; exact fun hp => st_no2 HY.out HX.out (fun hp => by unfold stR at hp; omega) hp.1
              have HF := Lib.hid hf; clear hf
              go_wp2_with fail
              have past0 := past_cell hcell
              have past1 := past_cell hcell1
              have past2 := past_cell hcell3
              have past3 := past_cell hcell4
              refine region_past (by kernel_rfl) (by kernel_rfl) ?_
              repeat (go_big_quiet_step (fail))
              go_big_quiet_step (first | (go_at_call 93; refine past_same (l6In_is x.s 1 20 _ true ?_); (simp only [true_iff]; exact P1.out)))
              repeat (go_big_quiet_step (fail))
              go_big_quiet_step (first | (go_at_call 93; refine past_same (l6In_is x.d 0 99 _ true ?_); (simp only [true_iff]; exact P2.out)))
              repeat (go_big_quiet_step (fail))
              refine wpQuiet_nil ?_
              intro wq hw1
              have hq := past_out hw1
              clear hw1 past0 past1 past2 past3
              go_wp2_with fail
              go_ret
              exact ⟨ret_bool HF.out.symm, hbr.trans (hq.mono hbr.size)⟩
            · have u1 : decide (x.s ≤ y.s) = false := decide_eq_false d1
              have u2 : decide (x.d < y.d) = true := decide_eq_true d2
              have hf : b = false := by rw [← Bool.not_eq_true, HB.out]; exact fun hp => st_no2 HY.out HX.out (fun hp => by unfold stR at hp; omega) hp.1
              have HF := Lib.hid hf; clear hf
              go_wp2_with fail
              have past0 := past_cell hcell
              have past1 := past_cell hcell1
              have past2 := past_cell hcell3
              have past3 := past_cell hcell4
              refine region_past (by kernel_rfl) (by kernel_rfl) ?_
              repeat (go_big_quiet_step (fail))
              go_big_quiet_step (first | (go_at_call 93; refine past_same (l6In_is x.s 1 20 _ true ?_); (simp only [true_iff]; exact P1.out)))
              repeat (go_big_quiet_step (fail))
              go_big_quiet_step (first | (go_at_call 93; refine past_same (l6In_is x.d 0 99 _ true ?_); (simp only [true_iff]; exact P2.out)))
              repeat (go_big_quiet_step (fail))
              refine wpQuiet_nil ?_
              intro wq hw1
              have hq := past_out hw1
              clear hw1 past0 past1 past2 past3
              go_wp2_with fail
              go_ret
              exact ⟨ret_bool HF.out.symm, hbr.trans (hq.mono hbr.size)⟩
            · have u1 : decide (x.s ≤ y.s) = false := decide_eq_false d1
              have u2 : decide (x.d < y.d) = false := decide_eq_false d2
              have hnext := st_yes HN.out HY.out HX.out H1.out hrr
              have HK := Lib.hid hnext; clear hnext hrr
              go_wp2_with fail
              have past0 := past_cell hcell
              have past1 := past_cell hcell1
              have past2 := past_cell hcell3
              have past3 := past_cell hcell4
              refine region_past (by kernel_rfl) (by kernel_rfl) ?_
              repeat (go_big_quiet_step (fail))
              go_big_quiet_step (first | (go_at_call 93; refine past_same (l6In_is x.s 1 20 _ true ?_); (simp only [true_iff]; exact P1.out)))
              repeat (go_big_quiet_step (fail))
              go_big_quiet_step (first | (go_at_call 93; refine past_same (l6In_is x.d 0 99 _ true ?_); (simp only [true_iff]; exact P2.out)))
              repeat (go_big_quiet_step (fail))
              refine wpQuiet_nil ?_
              intro wq hw1
              have hq := past_out hw1
              clear hw1 past0 past1 past2 past3
              go_wp2_with fail
              go_roundw
              case rel => first | exact ⟨j + 1 + 1, by omega, by go_num, HK.out, hbr.trans (hq.mono hbr.size)⟩ | ((repeat apply Exists.intro); refine ⟨?_, rfl⟩; exact ⟨j + 1 + 1, by omega, by go_num, HK.out, hbr.trans (hq.mono hbr.size)⟩)
              case measure => simp [intOf]; omega
        · have P1 := Lib.hid p1; have P2 := Lib.hid p2; clear p1 p2
          have hf : b = false := by rw [← Bool.not_eq_true, HB.out]; exact fun hp => st_no HX.out (fun hp => P2.out hp.2) hp.1
          have HF := Lib.hid hf; clear hf
          clear hprev
          go_wp2_with fail
          have past0 := past_cell hcell
          have past1 := past_cell hcell1
          refine region_past (by kernel_rfl) (by kernel_rfl) ?_
          repeat (go_big_quiet_step (fail))
          go_big_quiet_step (first | (go_at_call 93; refine past_same (l6In_is x.s 1 20 _ true ?_); (simp only [true_iff]; exact P1.out)))
          repeat (go_big_quiet_step (fail))
          go_big_quiet_step (first | (go_at_call 93; refine past_same (l6In_is x.d 0 99 _ false ?_); (simp only [Bool.false_eq_true, false_iff]; exact P2.out)))
          repeat (go_big_quiet_step (fail))
          refine wpQuiet_nil ?_
          intro wq hw1
          have hq := past_out hw1
          clear hw1 past0 past1
          go_wp2_with fail
          go_ret
          exact ⟨ret_bool HF.out.symm, hbr.trans (hq.mono hbr.size)⟩
      · have P1 := Lib.hid p1; clear p1
        have hf : b = false := by rw [← Bool.not_eq_true, HB.out]; exact fun hp => st_no HX.out (fun hp => P1.out hp.1) hp.1
        have HF := Lib.hid hf; clear hf
        clear hprev
        go_wp2_with fail
        have past0 := past_cell hcell
        have past1 := past_cell hcell1
        refine region_past (by kernel_rfl) (by kernel_rfl) ?_
        repeat (go_big_quiet_step (first | (go_at_call 93; refine past_same (l6In_is x.s 1 20 _ false ?_); (simp only [Bool.false_eq_true, false_iff]; exact P1.out))))
        refine wpQuiet_nil ?_
        intro wq hw1
        have hq := past_out hw1
        clear hw1 past0 past1
        go_wp2_with fail
        go_ret
        exact ⟨ret_bool HF.out.symm, hbr.trans (hq.mono hbr.size)⟩
    · obtain rfl : k = xs.length := by omega
      have hall : b = decide (xs.length ≤ 12) := by
        have h1 := HN.out
        rw [List.take_length] at h1
        rw [Bool.eq_iff_iff, HB.out, decide_eq_true_iff]
        exact ⟨fun h => h.2, fun h => ⟨h1, h⟩⟩
      have HA := Lib.hid hall; clear hall HN
      by_cases hle : xs.length ≤ 12
      · have u1 : decide (xs.length ≤ 12) = true := decide_eq_true hle
        have u2 : decide ((xs.length : Int) ≤ 12) = true := decide_eq_true (by omega)
        go_wp2_with fail
        go_ret
        exact ⟨ret_bool (by rw [HA.out, u1]), hbr⟩
      · have u1 : decide (xs.length ≤ 12) = false := decide_eq_false hle
        have u2 : decide ((xs.length : Int) ≤ 12) = false := decide_eq_false (by omega)
        go_wp2_with fail
        go_ret
        exact ⟨ret_bool (by rw [HA.out, u1]), hbr⟩
end Go.Proofs.Ytpdbohjgmghgkaa
