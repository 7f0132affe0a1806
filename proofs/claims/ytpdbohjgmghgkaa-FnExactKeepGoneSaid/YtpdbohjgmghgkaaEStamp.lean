


/- The helpers of the exact laws for Stamp. -/
import Derived.Test.YtpdbohjgmghgkaaMk
import Derived.Test.YtpdbohjgmghgkaaKpG
namespace Go.Proofs.Ytpdbohjgmghgkaa
open Go.RowKit
theorem toStamp_any (x : St) (w : World) : Calls Try.prog 97 #[.agg #[.int .i64 x.s, .int .i64 x.d]] w fun e w' => e = .returned (.agg #[.int .i64 x.s, .int .i64 x.d]) ∧ Below w.heap.size w w' := by
  go_enter Try.func97, Try.ntmps97
  go_wp2_with fail
  exact bodyPost_ret (v := .agg #[.int .i64 x.s, .int .i64 x.d]) (by simp [results, Try.results97, go_sem]) rfl ⟨rfl, by repeat (first | exact Below.refl _ _ | refine Below.setCell ?_ (by first | (simp; done) | (simp; omega)) _ | refine Below.alloc ?_ (by first | (simp; done) | (simp; omega)) _)⟩
theorem info_lStamp : (Try.prog.info? 76).map (fun i => (i.zero, i.size, i.bytes)) = some (some (.agg #[.int .i64 0, .int .i64 0]), 2, 16) := by kernel_rfl
theorem toStampS_any (xs : List St) (v : Value) (w : World) (lo hi : Nat) (h : RSl (RFlat FSt) 2 w lo hi xs [v]) (hhi : hi ≤ w.heap.size) (hl : xs.length ≤ 1048576) :
    Calls Try.prog 52 #[v] w (NewFlat FSt 76 w xs) := by
  obtain ⟨A, c, rfl⟩ := h.form
  have hmk := make_flat (P := Try.prog) 66 76 (.agg #[.int .i64 0, .int .i64 0]) 2 16 Try.underlying66 info_lStamp xs.length (by omega) (by omega) w
  go_enter Try.func52, Try.ntmps52
  go_wp2_with fail
  go_loopw [4] (fun i wr => ∃ k : Nat, k ≤ xs.length ∧ i = .int .i64 k ∧ Pre wr w.heap.size 76 (xs.length * 2) (flats FSt (xs.take k)) ∧ Below w.heap.size w wr) (fun i _ => xs.length - (intOf i).toNat)
  case atStart =>
    refine ⟨0, Nat.zero_le _, rfl, ?_, (Below.refl _ _).alloc (Nat.le_refl _) _⟩
    have := Pre.new w 76 (madeCells #[.int .i64 0, .int .i64 0] (xs.length * 2))
    rw [size_madeCells] at this
    exact this
  case round =>
    obtain ⟨k, hk, rfl, hp, hb⟩ := hrel
    by_cases hlt : k < xs.length
    · obtain ⟨x, hxk⟩ := some_of_lt hlt
      have h2 := sl_keep (RFlat.loc FSt) h hb hhi
      obtain ⟨b, off, es, rfl, _, hbb, _, ⟨rfl, _⟩, hcc⟩ := h2.at_ hxk
      have hc0 : wr.cell? ⟨b, off + k * 2, none⟩ = some (.int .i64 x.s) := by simpa using hcc 0 _ rfl
      have hc1 : wr.cell? ⟨b, off + k * 2 + 1, none⟩ = some (.int .i64 x.d) := by simpa using hcc 1 _ rfl
      have hnext := take_succ hxk
      have HX := Lib.hid hxk; clear hxk
      have HN := Lib.hid hnext; clear hnext hcc h2
      go_wp2_with fail
      refine (toStamp_any x _).mono ?_
      rintro e w1 ⟨rfl, hb1⟩
      have hp1 := hp.chg (Chg.of_below (S := fun _ => False) hb1) (fun h => h)
      have hlen : (flats FSt (xs.take k)).length = k * 2 := by rw [flats_len, List.length_take, Nat.min_eq_left hk]; rfl
      have hk3 : k * 2 + 2 ≤ xs.length * 2 := by omega
      obtain ⟨u0, hold0⟩ := hp1.there (j := k * 2) (by omega)
      have hfz0 := hp1.frozen (k * 2)
      obtain ⟨u1, hold1⟩ := hp1.there (j := k * 2 + 1) (by omega)
      have hfz1 := hp1.frozen (k * 2 + 1)
      have q0 := hp1.push (.int .i64 x.s) (by rw [hlen]; omega)
      rw [hlen] at q0
      have q1 := q0.push (.int .i64 x.d) (by simp only [List.length_append, hlen, List.length_cons, List.length_nil]; omega)
      simp only [List.length_append, hlen, List.length_cons, List.length_nil, Nat.zero_add] at q1
      have hq : flats FSt (xs.take (k + 1)) = flats FSt (xs.take k) ++ [.int .i64 x.s] ++ [.int .i64 x.d] := by rw [HN.out, flats_append, flats_one']; simp [FSt]
      have HQ := Lib.hid hq; clear hq
      have HL := Lib.hid hlen; clear hlen
      clear q0
      go_wp2_with fail
      go_roundw
      case rel => first | exact ⟨k + 1, by omega, by go_num, by rw [HQ.out]; exact q1, ((hb.trans (hb1.mono hb.size)).setCell (Nat.le_refl _) _).setCell (Nat.le_refl _) _⟩ | ((repeat apply Exists.intro); refine ⟨?_, rfl⟩; exact ⟨k + 1, by omega, by go_num, by rw [HQ.out]; exact q1, ((hb.trans (hb1.mono hb.size)).setCell (Nat.le_refl _) _).setCell (Nat.le_refl _) _⟩)
      case measure => simp [intOf]; omega
    · obtain rfl : k = xs.length := by omega
      rw [List.take_length] at hp
      go_wp2_with fail
      go_ret
      exact ⟨_, rfl, hp.own (Nat.le_refl _) (by unfold maxLen; omega), hb⟩
theorem szStampS_any (m c : Nat) (A : Option Addr) (k : Int) (w : World) (hm : m ≤ 9223372036854775807) (hk : 0 ≤ k) (hk' : k ≤ 1048576) (q : Int) (hq : (k - m < 0 ∧ q = -1) ∨ (0 ≤ k - m ∧ q = k - m)) :
    Calls Try.prog 51 #[.slice A m c, .int .i64 k] w fun e w' => e = .returned (.int .i64 q) ∧ w = w' := by
  rcases hq with ⟨h, rfl⟩ | ⟨h, rfl⟩
  · go_enter Try.func51, Try.ntmps51
    go_wp2_with fail
    go_ret
    exact ⟨rfl, rfl⟩
  · go_enter Try.func51, Try.ntmps51
    go_wp2_with fail
    go_ret
    exact ⟨rfl, rfl⟩
theorem eqStamp_any (x y : St) (w : World) (b : Bool) (hb : b = true ↔ x = y) : Calls Try.prog 98 #[.agg #[.int .i64 x.s, .int .i64 x.d], .agg #[.int .i64 y.s, .int .i64 y.d]] w fun e w' => e = .returned (.bool b) ∧ Below w.heap.size w w' := by
  have HB := Lib.hid hb; clear hb
  by_cases e0 : x.s = y.s
  · have t0 : (x.s != y.s) = false := by rw [bne_eq_false_iff_eq]; exact e0
    have E0 := Lib.hid e0; clear e0
    by_cases e1 : x.d = y.d
    · have t1 : (x.d != y.d) = false := by rw [bne_eq_false_iff_eq]; exact e1
      have E1 := Lib.hid e1; clear e1
      have hbt : b = true := HB.out.2 (by cases x; cases y; simp only [St.mk.injEq]; exact ⟨E0.out, E1.out⟩)
      have HT := Lib.hid hbt; clear hbt
      go_enter Try.func98, Try.ntmps98
      go_wp2_with fail
      go_ret
      exact ⟨ret_bool HT.out.symm, by repeat (first | exact Below.refl _ _ | refine Below.alloc ?_ (by simp) _)⟩
    · have t1 : (x.d != y.d) = true := by rw [bne_iff_ne]; exact e1
      have hbf : b = false := by rw [← Bool.not_eq_true, HB.out]; rintro rfl; exact e1 rfl
      have HT := Lib.hid hbf; clear hbf e1
      go_enter Try.func98, Try.ntmps98
      go_wp2_with fail
      go_ret
      exact ⟨ret_bool HT.out.symm, by repeat (first | exact Below.refl _ _ | refine Below.alloc ?_ (by simp) _)⟩
  · have t0 : (x.s != y.s) = true := by rw [bne_iff_ne]; exact e0
    have hbf : b = false := by rw [← Bool.not_eq_true, HB.out]; rintro rfl; exact e0 rfl
    have HT := Lib.hid hbf; clear hbf e0
    go_enter Try.func98, Try.ntmps98
    go_wp2_with fail
    go_ret
    exact ⟨ret_bool HT.out.symm, by repeat (first | exact Below.refl _ _ | refine Below.alloc ?_ (by simp) _)⟩
set_option maxHeartbeats 1000000 in
theorem eqStampS_any (xs ys : List St) (v1 v2 : Value) (w : World) (lo hi lo' hi' : Nat) (h1 : RSl (RFlat FSt) 2 w lo hi xs [v1]) (h2 : RSl (RFlat FSt) 2 w lo' hi' ys [v2]) (hh1 : hi ≤ w.heap.size) (hh2 : hi' ≤ w.heap.size) (b : Bool) (hb : b = true ↔ xs = ys) :
    Calls Try.prog 55 #[v1, v2] w fun e w' => e = .returned (.bool b) ∧ Below w.heap.size w w' := by
  have HB := Lib.hid hb; clear hb
  obtain ⟨A, c, rfl⟩ := h1.form
  obtain ⟨A2, c2, rfl⟩ := h2.form
  obtain ⟨_, hc, hx⟩ := h1.len_
  unfold maxLen at hx
  by_cases hlen : xs.length = ys.length
  · have t1 : ((xs.length : Int) != ys.length) = false := by rw [bne_eq_false_iff_eq]; omega
    have HL := Lib.hid hlen; clear hlen
    go_enter Try.func55, Try.ntmps55
    go_wp2_with fail
    go_loopw [5] (fun i wr => ∃ k : Nat, k ≤ xs.length ∧ i = .int .i64 k ∧ xs.take k = ys.take k ∧ Below w.heap.size w wr) (fun i _ => xs.length - (intOf i).toNat)
    case atStart => exact ⟨0, Nat.zero_le _, rfl, rfl, Below.refl _ _⟩
    case round =>
      obtain ⟨k, hk, rfl, he, hbr⟩ := hrel
      have HE := Lib.hid he; clear he
      by_cases hlt : k < xs.length
      · obtain ⟨x, hxk⟩ := some_of_lt hlt
        obtain ⟨y, hyk⟩ := some_of_lt (l := ys) (k := k) (by have := HL.out; omega)
        obtain ⟨b1, off, es, rfl, _, _, _, ⟨rfl, _⟩, hcc⟩ := (sl_keep (RFlat.loc FSt) h1 hbr hh1).at_ hxk
        obtain ⟨b2, off2, es, rfl, _, _, _, ⟨rfl, _⟩, hdd⟩ := (sl_keep (RFlat.loc FSt) h2 hbr hh2).at_ hyk
        have hc0 : wr.cell? ⟨b1, off + k * 2, none⟩ = some (.int .i64 x.s) := by simpa using hcc 0 _ rfl
        have hc1 : wr.cell? ⟨b1, off + k * 2 + 1, none⟩ = some (.int .i64 x.d) := by simpa using hcc 1 _ rfl
        have hd0 : wr.cell? ⟨b2, off2 + k * 2, none⟩ = some (.int .i64 y.s) := by simpa using hdd 0 _ rfl
        have hd1 : wr.cell? ⟨b2, off2 + k * 2 + 1, none⟩ = some (.int .i64 y.d) := by simpa using hdd 1 _ rfl
        have hly : (k : Int) < (ys.length : Int) := by have := HL.out; omega
        have HX := Lib.hid hxk; have HY := Lib.hid hyk
        clear hxk hyk hcc hdd
        by_cases hxy : x = y
        · have HXY := Lib.hid hxy; clear hxy
          go_wp2_with fail
          have past0 := past_cell hc0
          have past1 := past_cell hd0
          have past2 := past_cell hc1
          have past3 := past_cell hd1
          refine region_past (by kernel_rfl) (by kernel_rfl) ?_
          repeat (go_big_quiet_step (first | (go_at_call 98; refine past_call (eqStamp_any x y _ true ?_); (simp only [true_iff]; exact HXY.out))))
          refine wpQuiet_nil ?_
          intro wq hw1
          have hq := past_out hw1
          clear hw1 past0 past1 past2 past3
          go_wp2_with fail
          go_roundw
          case rel => first | exact ⟨k + 1, by omega, by go_num, by rw [take_succ HX.out, take_succ HY.out, HE.out, HXY.out], hbr.trans (hq.mono hbr.size)⟩ | ((repeat apply Exists.intro); refine ⟨?_, rfl⟩; exact ⟨k + 1, by omega, by go_num, by rw [take_succ HX.out, take_succ HY.out, HE.out, HXY.out], hbr.trans (hq.mono hbr.size)⟩)
          case measure => simp [intOf]; omega
        · have hf : b = false := by
            rw [← Bool.not_eq_true, HB.out]
            rintro rfl
            exact hxy (Option.some.inj (HX.out.symm.trans HY.out))
          have HF := Lib.hid hf; clear hf
          have HXY := Lib.hid hxy; clear hxy
          go_wp2_with fail
          have past0 := past_cell hc0
          have past1 := past_cell hd0
          have past2 := past_cell hc1
          have past3 := past_cell hd1
          refine region_past (by kernel_rfl) (by kernel_rfl) ?_
          repeat (go_big_quiet_step (first | (go_at_call 98; refine past_call (eqStamp_any x y _ false ?_); (simp only [Bool.false_eq_true, false_iff]; exact HXY.out))))
          refine wpQuiet_nil ?_
          intro wq hw1
          have hq := past_out hw1
          clear hw1 past0 past1 past2 past3
          go_wp2_with fail
          go_ret
          exact ⟨ret_bool HF.out.symm, hbr.trans (hq.mono hbr.size)⟩
      · obtain rfl : k = xs.length := by omega
        have ht : b = true := by
          rw [HB.out]
          have := HE.out
          rwa [List.take_length, List.take_of_length_le (by have := HL.out; omega)] at this
        have HF := Lib.hid ht; clear ht
        go_wp2_with fail
        go_ret
        exact ⟨ret_bool HF.out.symm, hbr⟩
  · have t1 : ((xs.length : Int) != ys.length) = true := by rw [bne_iff_ne]; omega
    have hf : b = false := by
      rw [← Bool.not_eq_true, HB.out]
      rintro rfl
      exact hlen rfl
    have HF := Lib.hid hf; clear hf
    have HL := Lib.hid hlen; clear hlen
    go_enter Try.func55, Try.ntmps55
    go_wp2_with fail
    go_ret
    exact ⟨ret_bool HF.out.symm, Below.refl _ _⟩
set_option maxHeartbeats 1000000 in
theorem markStampS_any (m : Nat) (cs : List Value) (v : Value) (w : World) (base : Nat) (k : Int) (h : w.ownsRow base 76 2 v m cs) (hl : m ≤ 1048576) (hk : 0 ≤ k) (hk' : k ≤ 1099511627776) :
    Calls Try.prog 56 #[v, .int .i64 k] w fun e w' => e = .returned (.int .i64 (k + m * 2)) ∧ w'.ownsRow base 76 2 v m (markC k (m * 2)) ∧ Chg (fun b => v.ownBlock = some b) w w' := by
  rcases h.2 with ⟨rfl, h0⟩ | ⟨g, cap, cur, rfl, hb, hh, hnc, hcm, hcs, htake⟩
  · subst h0
    go_enter Try.func56, Try.ntmps56
    go_wp2_with fail
    go_loopw [1, 5] (fun kk i wr => i = .int .i64 0 ∧ kk = .int .i64 k ∧ wr = w) (fun _ _ _ => 0)
    case atStart => exact ⟨rfl, rfl, rfl⟩
    case round =>
      obtain ⟨rfl, rfl, rfl⟩ := hrel
      go_wp2_with fail
      go_ret
      exact ⟨ret_int (by simp), World.ownsRow_nil _ _ _ _, Chg.refl _ _⟩
  · have hm0 := h.1
    go_enter Try.func56, Try.ntmps56
    go_wp2_with fail
    go_loopw [1, 5] (fun kk i wr => ∃ j : Nat, j ≤ m ∧ i = .int .i64 j ∧ kk = .int .i64 (k + j * 2) ∧ wr.ownsRow base 76 2 (.slice (some ⟨g, 0, none⟩) m cap) m (markC k (j * 2) ++ cs.drop (j * 2)) ∧ Chg (fun b => b = g) w wr) (fun _ i _ => m - (intOf i).toNat)
    case atStart => exact ⟨0, Nat.zero_le _, rfl, by simp, by simpa [markC] using h, Chg.refl _ _⟩
    case round =>
      obtain ⟨j, hj, rfl, rfl, hown, hc⟩ := hrel
      have HM := Lib.hid hm0
      by_cases hlt : j < m
      · have hjn : j * 2 + 2 ≤ m * 2 := by omega
        obtain ⟨c0, hu0⟩ := row_there hown (j := j * 2) (by omega)
        have hf0 := hown.frozenAt (j * 2)
        obtain ⟨c1, hu1⟩ := row_there hown (j := j * 2 + 1) (by omega)
        have hf1 := hown.frozenAt (j * 2 + 1)
        have q0 := mark_push (j := j * 2) hown (by rw [HM.out]; omega)
        have q1 := mark_push (j := j * 2 + 1) q0 (by rw [HM.out]; omega)
        simp only [Nat.add_assoc, Nat.reduceAdd] at q0 q1
        clear q0
        have hcast : k + ((j * 2 : Nat) : Int) = k + (j : Int) * 2 := by rw [Int.natCast_mul]; rfl
        have HC := Lib.hid hcast; clear hcast
        have hfin : ((wr.setCell ⟨g, j * 2, none⟩ (.int .i64 (k + (j : Int) * 2))).setCell ⟨g, j * 2 + 1, none⟩ (.int .i64 (k + (j : Int) * 2 + 1))).ownsRow base 76 2 (.slice (some ⟨g, 0, none⟩) m cap) m (markC k ((j + 1) * 2) ++ cs.drop ((j + 1) * 2)) := by
          have e : (j + 1) * 2 = j * 2 + 2 := by omega
          rw [e]
          have hh := q1
          simp only [show k + ((j * 2 : Nat) : Int) = (k + (j : Int) * 2) from by omega, show k + ((j * 2 + 1 : Nat) : Int) = (k + (j : Int) * 2 + 1) from by omega] at hh
          exact hh
        clear q1
        go_wp2_with fail
        go_roundw
        case rel => first | exact ⟨j + 1, by omega, by go_num, by go_num, hfin, (hc.setCell (p := ⟨g, j * 2, none⟩) (.inl rfl) _).setCell (p := ⟨g, j * 2 + 1, none⟩) (.inl rfl) _⟩ | ((repeat apply Exists.intro); refine ⟨?_, rfl⟩; exact ⟨j + 1, by omega, by go_num, by go_num, hfin, (hc.setCell (p := ⟨g, j * 2, none⟩) (.inl rfl) _).setCell (p := ⟨g, j * 2 + 1, none⟩) (.inl rfl) _⟩)
        case measure => simp [intOf]; omega
      · obtain rfl : j = m := by omega
        go_wp2_with fail
        go_ret
        exact ⟨rfl, by have h2 := hown; rw [List.drop_eq_nil_of_le (by rw [HM.out]; exact Nat.le_refl _), List.append_nil] at h2; exact h2, hc.mono fun i _ hi => by subst hi; rfl⟩
end Go.Proofs.Ytpdbohjgmghgkaa
