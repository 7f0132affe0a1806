


/- impl's functions that only look at a ring. -/
import Derived.Test.YtdbeclnoaeiaeaaRg
namespace Go.Proofs.Ytdbeclnoaeiaeaa
open Go.RowKit

set_option maxHeartbeats 1000000 in
theorem keysOk_any (r : Rg) (va vb : Value) (w : World) (lo hi : Nat) (hhi : hi ≤ w.heap.size) (ha : RSl RInt 1 w lo hi r.keys [va]) (b : Bool) (hb : b = true ↔ keysP r.keys ∧ 1 ≤ r.keys.length ∧ r.keys.length ≤ 9) :
    Calls Try.prog 55 #[.agg #[va, vb]] w fun e w' => e = .returned (.bool b) ∧ Below w.heap.size w w' := by
  have HB := Lib.hid hb; clear hb
  obtain ⟨A, c, rfl⟩ := ha.form
  obtain ⟨_, hc, hx⟩ := ha.len_
  unfold maxLen at hx
  have hbw := below_alloc w (.cells #[.slice A r.keys.length c, vb] 30)
  have f1 := sl_keep RInt.loc ha hbw hhi
  have c0 := new_cell w #[.slice A r.keys.length c, vb] 30 0 rfl
  go_enter Try.func55, Try.ntmps55
  go_wp2_with fail
  generalize w.alloc (.cells #[.slice A r.keys.length c, vb] 30) = w0 at *
  go_loop [8] (fun i => ∃ k : Nat, k ≤ r.keys.length ∧ i = .int .i64 k ∧ keysP (r.keys.take k)) (fun i => r.keys.length - (intOf i).toNat)
  case atStart => exact ⟨0, Nat.zero_le _, rfl, keysP_nil⟩
  case round =>
    obtain ⟨k, hk, rfl, hn⟩ := hrel
    have HN := Lib.hid hn; clear hn
    by_cases hlt : k < r.keys.length
    · obtain ⟨x, hxk⟩ := some_of_lt hlt
      obtain ⟨b1, off, rfl, _, _, _, hcell⟩ := f1.ints_at hxk
      have HX := Lib.hid hxk; clear hxk
      have hcut := f1.cut (m := k) (by omega)
      by_cases p1 : 1 ≤ x ∧ x ≤ 99
      · by_cases p2 : x ∈ r.keys.take k
        · have hf : b = false := by rw [← Bool.not_eq_true, HB.out]; exact fun h => keys_no HX.out (fun h2 => h2.2 p2) h.1
          have HF := Lib.hid hf; clear hf
          have t1 : decide (x ∈ r.keys.take k) = true := decide_eq_true p2
          have H2 := Lib.hid p2; clear p2
          go_wp2_with fail
          refine (keyOk_any x _ true (by simp [p1])).mono ?_
          rintro e w1 ⟨rfl, rfl⟩
          go_wp2_with fail
          refine (contains_int x (r.keys.take k) _ _ _ _ _ _ hcut).mono ?_
          rintro e w1 ⟨rfl, rfl⟩
          go_wp2_with fail
          go_ret
          exact ⟨ret_bool HF.out.symm, hbw⟩
        · have hnext : keysP (r.keys.take (k + 1)) := (keys_all HX.out).2 ⟨HN.out, p1, p2⟩
          have HK := Lib.hid hnext; clear hnext
          have t1 : decide (x ∈ r.keys.take k) = false := decide_eq_false p2
          have H2 := Lib.hid p2; clear p2
          go_wp2_with fail
          refine (keyOk_any x _ true (by simp [p1])).mono ?_
          rintro e w1 ⟨rfl, rfl⟩
          go_wp2_with fail
          refine (contains_int x (r.keys.take k) _ _ _ _ _ _ hcut).mono ?_
          rintro e w1 ⟨rfl, rfl⟩
          go_wp2_with fail
          go_round
          case rel => first | exact ⟨k + 1, by omega, by go_num, HK.out⟩ | ((repeat apply Exists.intro); refine ⟨?_, rfl⟩; exact ⟨k + 1, by omega, by go_num, HK.out⟩)
          case measure => simp [intOf]; omega
      · have hf : b = false := by rw [← Bool.not_eq_true, HB.out]; exact fun h => keys_no HX.out (fun h2 => p1 h2.1) h.1
        have HF := Lib.hid hf; clear hf
        have H1 := Lib.hid p1; clear p1
        go_wp2_with fail
        refine (keyOk_any x _ false (by simp only [Bool.false_eq_true, false_iff]; exact H1.out)).mono ?_
        rintro e w1 ⟨rfl, rfl⟩
        go_wp2_with fail
        go_ret
        exact ⟨ret_bool HF.out.symm, hbw⟩
    · obtain rfl : k = r.keys.length := by omega
      have hkeys : keysP r.keys := by have := HN.out; rwa [List.take_length] at this
      have HKS := Lib.hid hkeys; clear hkeys HN
      by_cases h1 : 1 ≤ r.keys.length
      · go_wp2_with fail
        go_ret
        exact ⟨ret_bool (by rw [Bool.eq_iff_iff, HB.out]; simp [HKS.out]; omega), hbw⟩
      · go_wp2_with fail
        go_ret
        exact ⟨ret_bool (by rw [eq_comm, ← Bool.not_eq_true, HB.out]; exact fun h => h1 h.2.1), hbw⟩

set_option maxHeartbeats 2000000 in
theorem implRingOk_any (r : Rg) (va vb : Value) (w : World) (lo hi : Nat) (hhi : hi ≤ w.heap.size) (ha : RSl RInt 1 w lo hi r.keys [va]) (h : RSl RGr 3 w lo hi r.grs [vb]) (b : Bool) (hb : b = true ↔ ringP r) :
    Calls Try.prog 22 #[.agg #[va, vb]] w fun e w' => e = .returned (.bool b) ∧ Below w.heap.size w w' := by
  have HB := Lib.hid hb; clear hb
  obtain ⟨A, c, rfl⟩ := ha.form
  obtain ⟨B, d, rfl⟩ := h.form
  obtain ⟨_, hc, hx⟩ := ha.len_
  obtain ⟨_, hd, hy⟩ := h.len_
  unfold maxLen at hx hy
  have hbw := below_alloc w (.cells #[.slice A r.keys.length c, .slice B r.grs.length d] 30)
  have f1 := sl_keep RInt.loc ha hbw hhi
  have g1 := sl_keep RGr.loc h hbw hhi
  have c0 := new_cell w #[.slice A r.keys.length c, .slice B r.grs.length d] 30 0 rfl
  have c1 := new_cell w #[.slice A r.keys.length c, .slice B r.grs.length d] 30 1 rfl
  have hhi0 : hi ≤ (w.alloc (.cells #[.slice A r.keys.length c, .slice B r.grs.length d] 30)).heap.size := Nat.le_trans hhi hbw.size
  go_enter Try.func22, Try.ntmps22
  go_wp2_with fail
  generalize w.alloc (.cells #[.slice A r.keys.length c, .slice B r.grs.length d] 30) = w0 at *
  go_loopw [8] (fun i wr => ∃ k : Nat, k ≤ r.grs.length ∧ i = .int .i64 k ∧ grsP r.keys.length (r.grs.take k) ∧ Below w0.heap.size w0 wr) (fun i _ => r.grs.length - (intOf i).toNat)
  case atStart => exact ⟨0, Nat.zero_le _, rfl, grsP_nil _, Below.refl _ _⟩
  case round =>
    obtain ⟨k, hk, rfl, hn, hbr⟩ := hrel
    have HN := Lib.hid hn; clear hn
    have f2 := sl_keep RInt.loc f1 hbr hhi0
    have g2 := sl_keep RGr.loc g1 hbr hhi0
    have k0 := cell_keep hbr c0
    have k1 := cell_keep hbr c1
    by_cases hlt : k < r.grs.length
    · obtain ⟨x, hxk⟩ := some_of_lt hlt
      obtain ⟨b1, off, rfl, _, _, h64, hcell, hcell1, hcell2⟩ := g2.grs_at hxk
      have HX := Lib.hid hxk; clear hxk
      have hba := below_alloc wr (.cells #[.int .i64 x.m, .int .i64 x.f, .int .i64 x.t] 37)
      have n0 := new_cell wr #[.int .i64 x.m, .int .i64 x.f, .int .i64 x.t] 37 0 rfl
      have n1 := new_cell wr #[.int .i64 x.m, .int .i64 x.f, .int .i64 x.t] 37 1 rfl
      have n2 := new_cell wr #[.int .i64 x.m, .int .i64 x.f, .int .i64 x.t] 37 2 rfl
      have j0 := cell_keep hba k0
      have j1 := cell_keep hba k1
      have hbz := hbr.trans (hba.mono hbr.size)
      have hprev : k = 0 ∨ ∃ j y, k = j + 1 ∧ r.grs[j]? = some y ∧ wr.cell? ⟨b1, off + j * 3, none⟩ = some (.int .i64 y.m) := by
        rcases Nat.eq_zero_or_pos k with h0 | h0
        · exact .inl h0
        · obtain ⟨y, hyk⟩ := some_of_lt (l := r.grs) (k := k - 1) (by omega)
          obtain ⟨b2, off2, hbo, _, _, _, hcell3, _, _⟩ := g2.grs_at hyk
          simp only [Option.some.injEq, Addr.mk.injEq, and_true] at hbo
          obtain ⟨rfl, rfl⟩ := hbo
          exact .inr ⟨k - 1, y, by omega, hyk, hcell3⟩
      by_cases p1 : 1 ≤ x.m ∧ x.m ≤ 4
      · rcases hprev with rfl | ⟨j, y, rfl, hyk, hcell3⟩
        · simp only [Nat.zero_mul, Nat.add_zero] at hcell hcell1 hcell2
          have p13 := p1
          have H1 := Lib.hid p1; clear p1
          by_cases p3 : 1 ≤ x.f ∧ x.f ≤ r.keys.length
          · have H3 := Lib.hid p3; clear p3
            go_wp2_with fail
            generalize wr.alloc (.cells #[.int .i64 x.m, .int .i64 x.f, .int .i64 x.t] 37) = wa at *
            have past0 := past_cell n0
            have past1 := past_cell n1
            have past2 := past_cell n2
            have past3 := past_cell j0
            have past4 := past_cell j1
            refine region_past (by kernel_rfl) (by kernel_rfl) ?_
            repeat (go_big_quiet_step (first | (go_at_call 53; refine past_same (machineOk_any x.m _ true ?_); (simp only [true_iff]; exact H1.out)) | (go_at_call 54; refine past_call (epochIn_any r.keys.length x.f _ _ _ _ true ?_); (simp only [true_iff]; exact H3.out))))
            refine wpQuiet_nil ?_
            intro wq hw1
            have hq := past_out hw1
            clear hw1 past0 past1 past2 past3 past4
            replace n0 := cell_keep hq n0
            replace n1 := cell_keep hq n1
            replace n2 := cell_keep hq n2
            replace j0 := cell_keep hq j0
            replace j1 := cell_keep hq j1
            replace hbz := hbz.trans (hq.mono hbz.size)
            by_cases p4 : x.t = 0
            · have hp : grP r.keys.length x := ⟨H1.out.1, H1.out.2, H3.out.1, H3.out.2, .inl p4⟩
              have hnext : grsP r.keys.length (r.grs.take (0 + 1)) := grs_yes0 HX.out hp
              have HK := Lib.hid hnext; clear hnext hp
              have t1 : (x.t != 0) = false := by rw [bne_eq_false_iff_eq]; exact p4
              have H4 := Lib.hid p4; clear p4
              go_wp2_with fail
              go_roundw
              case rel => first | exact ⟨0 + 1, by omega, by go_num, HK.out, hbz⟩ | ((repeat apply Exists.intro); refine ⟨?_, rfl⟩; exact ⟨0 + 1, by omega, by go_num, HK.out, hbz⟩)
              case measure => simp [intOf]; omega
            · have t1 : (x.t != 0) = true := by rw [bne_iff_ne]; exact p4
              have H4 := Lib.hid p4; clear p4
              by_cases p5 : x.f ≤ x.t
              · by_cases p6 : x.t ≤ r.keys.length
                · have hp : grP r.keys.length x := ⟨H1.out.1, H1.out.2, H3.out.1, H3.out.2, .inr ⟨p5, p6⟩⟩
                  have hnext : grsP r.keys.length (r.grs.take (0 + 1)) := grs_yes0 HX.out hp
                  have HK := Lib.hid hnext; clear hnext hp
                  have h7 : 1 ≤ x.t ∧ x.t ≤ r.keys.length := ⟨by have := H3.out; omega, p6⟩
                  have H7 := Lib.hid h7; clear h7
                  go_wp2_with fail
                  refine (epochIn_any r.keys.length x.t _ _ _ _ true (by simp only [true_iff]; exact H7.out)).mono ?_
                  rintro e w1 ⟨rfl, hb1⟩
                  go_wp2_with fail
                  go_roundw
                  case rel => first | exact ⟨0 + 1, by omega, by go_num, HK.out, hbz.trans (hb1.mono hbz.size)⟩ | ((repeat apply Exists.intro); refine ⟨?_, rfl⟩; exact ⟨0 + 1, by omega, by go_num, HK.out, hbz.trans (hb1.mono hbz.size)⟩)
                  case measure => simp [intOf]; omega
                · have hf : b = false := by rw [← Bool.not_eq_true, HB.out]; exact fun h => grs_no HX.out (fun h2 => by have := h2.2.2.2.2; have := H4.out; omega) h.2.1
                  have HF := Lib.hid hf; clear hf
                  have h7 : ¬ (1 ≤ x.t ∧ x.t ≤ r.keys.length) := fun h => p6 h.2
                  have H7 := Lib.hid h7; clear h7 p6
                  go_wp2_with fail
                  refine (epochIn_any r.keys.length x.t _ _ _ _ false (by simp only [Bool.false_eq_true, false_iff]; exact H7.out)).mono ?_
                  rintro e w1 ⟨rfl, hb1⟩
                  go_wp2_with fail
                  go_ret
                  exact ⟨ret_bool HF.out.symm, hbw.trans ((hbz.trans (hb1.mono hbz.size)).mono hbw.size)⟩
              · have hf : b = false := by rw [← Bool.not_eq_true, HB.out]; exact fun h => grs_no HX.out (fun h2 => by have := h2.2.2.2.2; have := H4.out; omega) h.2.1
                have HF := Lib.hid hf; clear hf
                go_wp2_with fail
                go_ret
                exact ⟨ret_bool HF.out.symm, hbw.trans (hbz.mono hbw.size)⟩
          · have hf : b = false := by rw [← Bool.not_eq_true, HB.out]; exact fun h => grs_no HX.out (fun h2 => p3 ⟨h2.2.2.1, h2.2.2.2.1⟩) h.2.1
            have HF := Lib.hid hf; clear hf
            have H3 := Lib.hid p3; clear p3
            go_wp2_with fail
            generalize wr.alloc (.cells #[.int .i64 x.m, .int .i64 x.f, .int .i64 x.t] 37) = wa at *
            have past0 := past_cell n0
            have past1 := past_cell n1
            have past2 := past_cell n2
            have past3 := past_cell j0
            have past4 := past_cell j1
            refine region_past (by kernel_rfl) (by kernel_rfl) ?_
            repeat (go_big_quiet_step (first | (go_at_call 53; refine past_same (machineOk_any x.m _ true ?_); (simp only [true_iff]; exact H1.out)) | (go_at_call 54; refine past_call (epochIn_any r.keys.length x.f _ _ _ _ false ?_); (simp only [Bool.false_eq_true, false_iff]; exact H3.out))))
            refine wpQuiet_nil ?_
            intro wq hw1
            have hq := past_out hw1
            clear hw1 past0 past1 past2 past3 past4
            replace hbz := hbz.trans (hq.mono hbz.size)
            go_wp2_with fail
            go_ret
            exact ⟨ret_bool HF.out.symm, hbw.trans (hbz.mono hbw.size)⟩
        · have HY := Lib.hid hyk; clear hyk
          have m0 := cell_keep hba hcell3
          by_cases p2 : y.m < x.m
          · have H2 := Lib.hid p2
            have tm : decide (x.m ≤ y.m) = false := decide_eq_false (by omega)
            have p13 := p1
            have H1 := Lib.hid p1; clear p1
            by_cases p3 : 1 ≤ x.f ∧ x.f ≤ r.keys.length
            · have H3 := Lib.hid p3; clear p3
              go_wp2_with fail
              generalize wr.alloc (.cells #[.int .i64 x.m, .int .i64 x.f, .int .i64 x.t] 37) = wa at *
              have past0 := past_cell n0
              have past1 := past_cell n1
              have past2 := past_cell n2
              have past3 := past_cell j0
              have past4 := past_cell j1
              have past5 := past_cell m0
              refine region_past (by kernel_rfl) (by kernel_rfl) ?_
              repeat (go_big_quiet_step (first | (go_at_call 53; refine past_same (machineOk_any x.m _ true ?_); (simp only [true_iff]; exact H1.out)) | (go_at_call 54; refine past_call (epochIn_any r.keys.length x.f _ _ _ _ true ?_); (simp only [true_iff]; exact H3.out))))
              refine wpQuiet_nil ?_
              intro wq hw1
              have hq := past_out hw1
              clear hw1 past0 past1 past2 past3 past4 past5
              replace n0 := cell_keep hq n0
              replace n1 := cell_keep hq n1
              replace n2 := cell_keep hq n2
              replace j0 := cell_keep hq j0
              replace j1 := cell_keep hq j1
              replace hbz := hbz.trans (hq.mono hbz.size)
              by_cases p4 : x.t = 0
              · have hp : grP r.keys.length x := ⟨H1.out.1, H1.out.2, H3.out.1, H3.out.2, .inl p4⟩
                have hnext : grsP r.keys.length (r.grs.take (j + 1 + 1)) := grs_yes HN.out HY.out HX.out hp H2.out
                have HK := Lib.hid hnext; clear hnext hp
                have t1 : (x.t != 0) = false := by rw [bne_eq_false_iff_eq]; exact p4
                have H4 := Lib.hid p4; clear p4
                go_wp2_with fail
                go_roundw
                case rel => first | exact ⟨j + 1 + 1, by omega, by go_num, HK.out, hbz⟩ | ((repeat apply Exists.intro); refine ⟨?_, rfl⟩; exact ⟨j + 1 + 1, by omega, by go_num, HK.out, hbz⟩)
                case measure => simp [intOf]; omega
              · have t1 : (x.t != 0) = true := by rw [bne_iff_ne]; exact p4
                have H4 := Lib.hid p4; clear p4
                by_cases p5 : x.f ≤ x.t
                · by_cases p6 : x.t ≤ r.keys.length
                  · have hp : grP r.keys.length x := ⟨H1.out.1, H1.out.2, H3.out.1, H3.out.2, .inr ⟨p5, p6⟩⟩
                    have hnext : grsP r.keys.length (r.grs.take (j + 1 + 1)) := grs_yes HN.out HY.out HX.out hp H2.out
                    have HK := Lib.hid hnext; clear hnext hp
                    have h7 : 1 ≤ x.t ∧ x.t ≤ r.keys.length := ⟨by have := H3.out; omega, p6⟩
                    have H7 := Lib.hid h7; clear h7
                    go_wp2_with fail
                    refine (epochIn_any r.keys.length x.t _ _ _ _ true (by simp only [true_iff]; exact H7.out)).mono ?_
                    rintro e w1 ⟨rfl, hb1⟩
                    go_wp2_with fail
                    go_roundw
                    case rel => first | exact ⟨j + 1 + 1, by omega, by go_num, HK.out, hbz.trans (hb1.mono hbz.size)⟩ | ((repeat apply Exists.intro); refine ⟨?_, rfl⟩; exact ⟨j + 1 + 1, by omega, by go_num, HK.out, hbz.trans (hb1.mono hbz.size)⟩)
                    case measure => simp [intOf]; omega
                  · have hf : b = false := by rw [← Bool.not_eq_true, HB.out]; exact fun h => grs_no HX.out (fun h2 => by have := h2.2.2.2.2; have := H4.out; omega) h.2.1
                    have HF := Lib.hid hf; clear hf
                    have h7 : ¬ (1 ≤ x.t ∧ x.t ≤ r.keys.length) := fun h => p6 h.2
                    have H7 := Lib.hid h7; clear h7 p6
                    go_wp2_with fail
                    refine (epochIn_any r.keys.length x.t _ _ _ _ false (by simp only [Bool.false_eq_true, false_iff]; exact H7.out)).mono ?_
                    rintro e w1 ⟨rfl, hb1⟩
                    go_wp2_with fail
                    go_ret
                    exact ⟨ret_bool HF.out.symm, hbw.trans ((hbz.trans (hb1.mono hbz.size)).mono hbw.size)⟩
                · have hf : b = false := by rw [← Bool.not_eq_true, HB.out]; exact fun h => grs_no HX.out (fun h2 => by have := h2.2.2.2.2; have := H4.out; omega) h.2.1
                  have HF := Lib.hid hf; clear hf
                  go_wp2_with fail
                  go_ret
                  exact ⟨ret_bool HF.out.symm, hbw.trans (hbz.mono hbw.size)⟩
            · have hf : b = false := by rw [← Bool.not_eq_true, HB.out]; exact fun h => grs_no HX.out (fun h2 => p3 ⟨h2.2.2.1, h2.2.2.2.1⟩) h.2.1
              have HF := Lib.hid hf; clear hf
              have H3 := Lib.hid p3; clear p3
              go_wp2_with fail
              generalize wr.alloc (.cells #[.int .i64 x.m, .int .i64 x.f, .int .i64 x.t] 37) = wa at *
              have past0 := past_cell n0
              have past1 := past_cell n1
              have past2 := past_cell n2
              have past3 := past_cell j0
              have past4 := past_cell j1
              have past5 := past_cell m0
              refine region_past (by kernel_rfl) (by kernel_rfl) ?_
              repeat (go_big_quiet_step (first | (go_at_call 53; refine past_same (machineOk_any x.m _ true ?_); (simp only [true_iff]; exact H1.out)) | (go_at_call 54; refine past_call (epochIn_any r.keys.length x.f _ _ _ _ false ?_); (simp only [Bool.false_eq_true, false_iff]; exact H3.out))))
              refine wpQuiet_nil ?_
              intro wq hw1
              have hq := past_out hw1
              clear hw1 past0 past1 past2 past3 past4 past5
              replace hbz := hbz.trans (hq.mono hbz.size)
              go_wp2_with fail
              go_ret
              exact ⟨ret_bool HF.out.symm, hbw.trans (hbz.mono hbw.size)⟩
          · have hf : b = false := by rw [← Bool.not_eq_true, HB.out]; exact fun h => grs_no2 HY.out HX.out p2 h.2.1
            have tm : decide (x.m ≤ y.m) = true := decide_eq_true (by omega)
            have HF := Lib.hid hf; clear hf
            have H1 := Lib.hid p1; clear p1
            go_wp2_with fail
            generalize wr.alloc (.cells #[.int .i64 x.m, .int .i64 x.f, .int .i64 x.t] 37) = wa at *
            have past0 := past_cell n0
            have past1 := past_cell n1
            have past2 := past_cell n2
            have past3 := past_cell j0
            have past4 := past_cell j1
            have past5 := past_cell m0
            refine region_past (by kernel_rfl) (by kernel_rfl) ?_
            repeat (go_big_quiet_step (first | (go_at_call 53; refine past_same (machineOk_any x.m _ true ?_); (simp only [true_iff]; exact H1.out))))
            refine wpQuiet_nil ?_
            intro wq hw1
            have hq := past_out hw1
            clear hw1 past0 past1 past2 past3 past4 past5
            replace hbz := hbz.trans (hq.mono hbz.size)
            go_wp2_with fail
            go_ret
            exact ⟨ret_bool HF.out.symm, hbw.trans (hbz.mono hbw.size)⟩
      · have hf : b = false := by rw [← Bool.not_eq_true, HB.out]; exact fun h => grs_no HX.out (fun h2 => p1 ⟨h2.1, h2.2.1⟩) h.2.1
        have HF := Lib.hid hf; clear hf
        have H1 := Lib.hid p1; clear p1 hprev
        go_wp2_with fail
        generalize wr.alloc (.cells #[.int .i64 x.m, .int .i64 x.f, .int .i64 x.t] 37) = wa at *
        have past0 := past_cell n0
        have past1 := past_cell n1
        have past2 := past_cell n2
        have past3 := past_cell j0
        have past4 := past_cell j1
        refine region_past (by kernel_rfl) (by kernel_rfl) ?_
        repeat (go_big_quiet_step (first | (go_at_call 53; refine past_same (machineOk_any x.m _ false ?_); (simp only [Bool.false_eq_true, false_iff]; exact H1.out))))
        refine wpQuiet_nil ?_
        intro wq hw1
        have hq := past_out hw1
        clear hw1 past0 past1 past2 past3 past4
        go_wp2_with fail
        go_ret
        exact ⟨ret_bool HF.out.symm, hbw.trans ((hbz.trans (hq.mono hbz.size)).mono hbw.size)⟩
    · obtain rfl : k = r.grs.length := by omega
      have hgrs : grsP r.keys.length r.grs := by have := HN.out; rwa [List.take_length] at this
      have HGS := Lib.hid hgrs; clear hgrs HN
      go_wp2_with fail
      refine (keysOk_any r _ _ _ lo hi (Nat.le_trans hhi0 hbr.size) f2 b (by rw [HB.out]; simp [ringP, HGS.out])).mono ?_
      rintro e w1 ⟨rfl, hb1⟩
      go_wp2_with fail
      go_ret
      exact ⟨rfl, hbw.trans ((hbr.trans (hb1.mono hbr.size)).mono hbw.size)⟩
end Go.Proofs.Ytdbeclnoaeiaeaa
