


/- The helpers of the exact laws for Spot. -/
import Derived.Test.YtanppokbjladfaaMk
import Derived.Test.YtanppokbjladfaaIxF
namespace Go.Proofs.Ytanppokbjladfaa
open Go.RowKit
theorem eqSpot_any (x y : Sp) (w : World) (b : Bool) (hb : b = true ↔ x = y) : Calls Try.prog 49 #[.agg #[.int .i64 x.n, .int .i64 x.p], .agg #[.int .i64 y.n, .int .i64 y.p]] w fun e w' => e = .returned (.bool b) ∧ Below w.heap.size w w' := by
  have HB := Lib.hid hb; clear hb
  by_cases e0 : x.n = y.n
  · have t0 : (x.n != y.n) = false := by rw [bne_eq_false_iff_eq]; exact e0
    have E0 := Lib.hid e0; clear e0
    by_cases e1 : x.p = y.p
    · have t1 : (x.p != y.p) = false := by rw [bne_eq_false_iff_eq]; exact e1
      have E1 := Lib.hid e1; clear e1
      have hbt : b = true := HB.out.2 (by cases x; cases y; simp only [Sp.mk.injEq]; exact ⟨E0.out, E1.out⟩)
      have HT := Lib.hid hbt; clear hbt
      go_enter Try.func49, Try.ntmps49
      go_wp2_with fail
      go_ret
      exact ⟨ret_bool HT.out.symm, by repeat (first | exact Below.refl _ _ | refine Below.alloc ?_ (by simp) _)⟩
    · have t1 : (x.p != y.p) = true := by rw [bne_iff_ne]; exact e1
      have hbf : b = false := by rw [← Bool.not_eq_true, HB.out]; rintro rfl; exact e1 rfl
      have HT := Lib.hid hbf; clear hbf e1
      go_enter Try.func49, Try.ntmps49
      go_wp2_with fail
      go_ret
      exact ⟨ret_bool HT.out.symm, by repeat (first | exact Below.refl _ _ | refine Below.alloc ?_ (by simp) _)⟩
  · have t0 : (x.n != y.n) = true := by rw [bne_iff_ne]; exact e0
    have hbf : b = false := by rw [← Bool.not_eq_true, HB.out]; rintro rfl; exact e0 rfl
    have HT := Lib.hid hbf; clear hbf e0
    go_enter Try.func49, Try.ntmps49
    go_wp2_with fail
    go_ret
    exact ⟨ret_bool HT.out.symm, by repeat (first | exact Below.refl _ _ | refine Below.alloc ?_ (by simp) _)⟩
set_option maxHeartbeats 1000000 in
theorem eqSpotS_any (xs ys : List Sp) (v1 v2 : Value) (w : World) (lo hi lo' hi' : Nat) (h1 : RSl (RFlat FSp) 2 w lo hi xs [v1]) (h2 : RSl (RFlat FSp) 2 w lo' hi' ys [v2]) (hh1 : hi ≤ w.heap.size) (hh2 : hi' ≤ w.heap.size) (b : Bool) (hb : b = true ↔ xs = ys) :
    Calls Try.prog 14 #[v1, v2] w fun e w' => e = .returned (.bool b) ∧ Below w.heap.size w w' := by
  have HB := Lib.hid hb; clear hb
  obtain ⟨A, c, rfl⟩ := h1.form
  obtain ⟨A2, c2, rfl⟩ := h2.form
  obtain ⟨_, hc, hx⟩ := h1.len_
  unfold maxLen at hx
  by_cases hlen : xs.length = ys.length
  · have t1 : ((xs.length : Int) != ys.length) = false := by rw [bne_eq_false_iff_eq]; omega
    have HL := Lib.hid hlen; clear hlen
    go_enter Try.func14, Try.ntmps14
    go_wp2_with fail
    go_loopw [5] (fun i wr => ∃ k : Nat, k ≤ xs.length ∧ i = .int .i64 k ∧ xs.take k = ys.take k ∧ Below w.heap.size w wr) (fun i _ => xs.length - (intOf i).toNat)
    case atStart => exact ⟨0, Nat.zero_le _, rfl, rfl, Below.refl _ _⟩
    case round =>
      obtain ⟨k, hk, rfl, he, hbr⟩ := hrel
      have HE := Lib.hid he; clear he
      by_cases hlt : k < xs.length
      · obtain ⟨x, hxk⟩ := some_of_lt hlt
        obtain ⟨y, hyk⟩ := some_of_lt (l := ys) (k := k) (by have := HL.out; omega)
        obtain ⟨b1, off, es, rfl, _, _, _, ⟨rfl, _⟩, hcc⟩ := (sl_keep (RFlat.loc FSp) h1 hbr hh1).at_ hxk
        obtain ⟨b2, off2, es, rfl, _, _, _, ⟨rfl, _⟩, hdd⟩ := (sl_keep (RFlat.loc FSp) h2 hbr hh2).at_ hyk
        have hc0 : wr.cell? ⟨b1, off + k * 2, none⟩ = some (.int .i64 x.n) := by simpa using hcc 0 _ rfl
        have hc1 : wr.cell? ⟨b1, off + k * 2 + 1, none⟩ = some (.int .i64 x.p) := by simpa using hcc 1 _ rfl
        have hd0 : wr.cell? ⟨b2, off2 + k * 2, none⟩ = some (.int .i64 y.n) := by simpa using hdd 0 _ rfl
        have hd1 : wr.cell? ⟨b2, off2 + k * 2 + 1, none⟩ = some (.int .i64 y.p) := by simpa using hdd 1 _ rfl
        have hly : (k : Int) < (ys.length : Int) := by have := HL.out; omega
        have HX := Lib.hid hxk; have HY := Lib.hid hyk
        clear hxk hyk hcc hdd
        by_cases hxy : x = y
        · have HXY := Lib.hid hxy; clear hxy
          go_wp2_with fail
          have past0 := past_cell hc0
          have past1 := past_cell hd0
          have past2 := past_cell hc1
          have past3 := past_cell hd1
          refine region_past (by kernel_rfl) (by kernel_rfl) ?_
          repeat (go_big_quiet_step (first | (go_at_call 49; refine past_call (eqSpot_any x y _ true ?_); (simp only [true_iff]; exact HXY.out))))
          refine wpQuiet_nil ?_
          intro wq hw1
          have hq := past_out hw1
          clear hw1 past0 past1 past2 past3
          go_wp2_with fail
          go_roundw
          case rel => first | exact ⟨k + 1, by omega, by go_num, by rw [take_succ HX.out, take_succ HY.out, HE.out, HXY.out], hbr.trans (hq.mono hbr.size)⟩ | ((repeat apply Exists.intro); refine ⟨?_, rfl⟩; exact ⟨k + 1, by omega, by go_num, by rw [take_succ HX.out, take_succ HY.out, HE.out, HXY.out], hbr.trans (hq.mono hbr.size)⟩)
          case measure => simp [intOf]; omega
        · have hf : b = false := by
            rw [← Bool.not_eq_true, HB.out]
            rintro rfl
            exact hxy (Option.some.inj (HX.out.symm.trans HY.out))
          have HF := Lib.hid hf; clear hf
          have HXY := Lib.hid hxy; clear hxy
          go_wp2_with fail
          have past0 := past_cell hc0
          have past1 := past_cell hd0
          have past2 := past_cell hc1
          have past3 := past_cell hd1
          refine region_past (by kernel_rfl) (by kernel_rfl) ?_
          repeat (go_big_quiet_step (first | (go_at_call 49; refine past_call (eqSpot_any x y _ false ?_); (simp only [Bool.false_eq_true, false_iff]; exact HXY.out))))
          refine wpQuiet_nil ?_
          intro wq hw1
          have hq := past_out hw1
          clear hw1 past0 past1 past2 past3
          go_wp2_with fail
          go_ret
          exact ⟨ret_bool HF.out.symm, hbr.trans (hq.mono hbr.size)⟩
      · obtain rfl : k = xs.length := by omega
        have ht : b = true := by
          rw [HB.out]
          have := HE.out
          rwa [List.take_length, List.take_of_length_le (by have := HL.out; omega)] at this
        have HF := Lib.hid ht; clear ht
        go_wp2_with fail
        go_ret
        exact ⟨ret_bool HF.out.symm, hbr⟩
  · have t1 : ((xs.length : Int) != ys.length) = true := by rw [bne_iff_ne]; omega
    have hf : b = false := by
      rw [← Bool.not_eq_true, HB.out]
      rintro rfl
      exact hlen rfl
    have HF := Lib.hid hf; clear hf
    have HL := Lib.hid hlen; clear hlen
    go_enter Try.func14, Try.ntmps14
    go_wp2_with fail
    go_ret
    exact ⟨ret_bool HF.out.symm, Below.refl _ _⟩
set_option maxHeartbeats 1000000 in
theorem markSpotS_any (m : Nat) (cs : List Value) (v : Value) (w : World) (base : Nat) (k : Int) (h : w.ownsRow base 77 2 v m cs) (hl : m ≤ 1048576) (hk : 0 ≤ k) (hk' : k ≤ 1099511627776) :
    Calls Try.prog 17 #[v, .int .i64 k] w fun e w' => e = .returned (.int .i64 (k + m * 2)) ∧ w'.ownsRow base 77 2 v m (markC k (m * 2)) ∧ Chg (fun b => v.ownBlock = some b) w w' := by
  rcases h.2 with ⟨rfl, h0⟩ | ⟨g, cap, cur, rfl, hb, hh, hnc, hcm, hcs, htake⟩
  · subst h0
    go_enter Try.func17, Try.ntmps17
    go_wp2_with fail
    go_loopw [1, 5] (fun kk i wr => i = .int .i64 0 ∧ kk = .int .i64 k ∧ wr = w) (fun _ _ _ => 0)
    case atStart => exact ⟨rfl, rfl, rfl⟩
    case round =>
      obtain ⟨rfl, rfl, rfl⟩ := hrel
      go_wp2_with fail
      go_ret
      exact ⟨ret_int (by simp), World.ownsRow_nil _ _ _ _, Chg.refl _ _⟩
  · have hm0 := h.1
    go_enter Try.func17, Try.ntmps17
    go_wp2_with fail
    go_loopw [1, 5] (fun kk i wr => ∃ j : Nat, j ≤ m ∧ i = .int .i64 j ∧ kk = .int .i64 (k + j * 2) ∧ wr.ownsRow base 77 2 (.slice (some ⟨g, 0, none⟩) m cap) m (markC k (j * 2) ++ cs.drop (j * 2)) ∧ Chg (fun b => b = g) w wr) (fun _ i _ => m - (intOf i).toNat)
    case atStart => exact ⟨0, Nat.zero_le _, rfl, by simp, by simpa [markC] using h, Chg.refl _ _⟩
    case round =>
      obtain ⟨j, hj, rfl, rfl, hown, hc⟩ := hrel
      have HM := Lib.hid hm0
      by_cases hlt : j < m
      · have hjn : j * 2 + 2 ≤ m * 2 := by omega
        obtain ⟨c0, hu0⟩ := row_there hown (j := j * 2) (by omega)
        have hf0 := hown.frozenAt (j * 2)
        obtain ⟨c1, hu1⟩ := row_there hown (j := j * 2 + 1) (by omega)
        have hf1 := hown.frozenAt (j * 2 + 1)
        have q0 := mark_push (j := j * 2) hown (by rw [HM.out]; omega)
        have q1 := mark_push (j := j * 2 + 1) q0 (by rw [HM.out]; omega)
        simp only [Nat.add_assoc, Nat.reduceAdd] at q0 q1
        clear q0
        have hcast : k + ((j * 2 : Nat) : Int) = k + (j : Int) * 2 := by rw [Int.natCast_mul]; rfl
        have HC := Lib.hid hcast; clear hcast
        have hfin : ((wr.setCell ⟨g, j * 2, none⟩ (.int .i64 (k + (j : Int) * 2))).setCell ⟨g, j * 2 + 1, none⟩ (.int .i64 (k + (j : Int) * 2 + 1))).ownsRow base 77 2 (.slice (some ⟨g, 0, none⟩) m cap) m (markC k ((j + 1) * 2) ++ cs.drop ((j + 1) * 2)) := by
          have e : (j + 1) * 2 = j * 2 + 2 := by omega
          rw [e]
          have hh := q1
          simp only [show k + ((j * 2 : Nat) : Int) = (k + (j : Int) * 2) from by omega, show k + ((j * 2 + 1 : Nat) : Int) = (k + (j : Int) * 2 + 1) from by omega] at hh
          exact hh
        clear q1
        go_wp2_with fail
        go_roundw
        case rel => first | exact ⟨j + 1, by omega, by go_num, by go_num, hfin, (hc.setCell (p := ⟨g, j * 2, none⟩) (.inl rfl) _).setCell (p := ⟨g, j * 2 + 1, none⟩) (.inl rfl) _⟩ | ((repeat apply Exists.intro); refine ⟨?_, rfl⟩; exact ⟨j + 1, by omega, by go_num, by go_num, hfin, (hc.setCell (p := ⟨g, j * 2, none⟩) (.inl rfl) _).setCell (p := ⟨g, j * 2 + 1, none⟩) (.inl rfl) _⟩)
        case measure => simp [intOf]; omega
      · obtain rfl : j = m := by omega
        go_wp2_with fail
        go_ret
        exact ⟨rfl, by have h2 := hown; rw [List.drop_eq_nil_of_le (by rw [HM.out]; exact Nat.le_refl _), List.append_nil] at h2; exact h2, hc.mono fun i _ hi => by subst hi; rfl⟩
set_option maxHeartbeats 1000000 in
theorem heldSpotS_any (m : Nat) (v : Value) (w : World) (base : Nat) (k : Int) (h : w.ownsRow base 77 2 v m (markC k (m * 2))) (hl : m ≤ 1048576) (hk : 0 ≤ k) (hk' : k ≤ 1099511627776) :
    Calls Try.prog 18 #[v, .int .i64 k] w fun e w' => e = .returned (.int .i64 (k + m * 2)) ∧ w = w' := by
  rcases h.2 with ⟨rfl, h0⟩ | ⟨g, cap, cur, rfl, hb, hh, hnc, hcm, hcs, htake⟩
  · subst h0
    go_enter Try.func18, Try.ntmps18
    go_wp2_with fail
    go_loop [1, 5] (fun kk i => i = .int .i64 0 ∧ kk = .int .i64 k) (fun _ _ => 0)
    case atStart => exact ⟨rfl, rfl⟩
    case round =>
      obtain ⟨rfl, rfl⟩ := hrel
      go_wp2_with fail
      go_ret
      exact ⟨ret_int (by simp), rfl⟩
  · go_enter Try.func18, Try.ntmps18
    go_wp2_with fail
    go_loop [1, 5] (fun kk i => ∃ j : Nat, j ≤ m ∧ i = .int .i64 j ∧ kk = .int .i64 (k + j * 2)) (fun _ i => m - (intOf i).toNat)
    case atStart => exact ⟨0, Nat.zero_le _, rfl, by simp⟩
    case round =>
      obtain ⟨j, hj, rfl, rfl⟩ := hrel
      by_cases hlt : j < m
      · have hc0 : w.cell? ⟨g, j * 2, none⟩ = some (.int .i64 (k + (j : Int) * 2)) := by rw [h.cellAt _ (by omega), markC_get _ _ _ (by omega)]; exact congrArg some (congrArg (Value.int .i64) (by omega))
        have hc1 : w.cell? ⟨g, j * 2 + 1, none⟩ = some (.int .i64 (k + (j : Int) * 2 + 1)) := by rw [h.cellAt _ (by omega), markC_get _ _ _ (by omega)]; exact congrArg some (congrArg (Value.int .i64) (by omega))
        go_wp2_with fail
        go_round
        case rel => first | exact ⟨j + 1, by omega, by go_num, by go_num⟩ | ((repeat apply Exists.intro); refine ⟨?_, rfl⟩; exact ⟨j + 1, by omega, by go_num, by go_num⟩)
        case measure => simp [intOf]; omega
      · obtain rfl : j = m := by omega
        go_wp2_with fail
        go_ret
        exact ⟨rfl, rfl⟩
end Go.Proofs.Ytanppokbjladfaa
