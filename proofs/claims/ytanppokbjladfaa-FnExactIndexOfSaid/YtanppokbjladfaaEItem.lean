


/- The helpers of the exact laws for Item. -/
import Derived.Test.YtanppokbjladfaaSt
namespace Go.Proofs.Ytanppokbjladfaa
open Go.RowKit

theorem szItem_any (x : It) (k : Int) (w : World) (hx : x.b.size ≤ maxLen) (hk : 0 ≤ k) (hk' : k ≤ 1048576) : Calls Try.prog 120 #[.agg #[.int .i64 x.n, .string x.b], .int .i64 k] w fun e w' => e = .returned (.int .i64 (sub0 k (bIt x))) ∧ Below w.heap.size w w' := by
  unfold maxLen at hx
  by_cases h : k - (x.b.size : Int) < 0
  · rw [sub0_neg (show k - ((bIt x : Nat) : Int) < 0 from h)]
    go_enter Try.func120, Try.ntmps120
    go_wp2_with fail
    go_ret
    exact ⟨rfl, below_alloc _ _⟩
  · rw [sub0_pos (show (0 : Int) ≤ k - (bIt x : Int) by unfold bIt; omega)]
    unfold bIt
    go_enter Try.func120, Try.ntmps120
    go_wp2_with fail
    go_ret
    exact ⟨rfl, below_alloc _ _⟩
set_option maxHeartbeats 1000000 in
theorem szItemS_any (xs : List It) (v : Value) (k : Int) (w : World) (lo hi : Nat) (h : RItsL w lo hi xs [v]) (hhi : hi ≤ w.heap.size) (hk : 0 ≤ k) (hk' : k ≤ 1048576) :
    Calls Try.prog 80 #[v, .int .i64 k] w fun e w' => e = .returned (.int .i64 (sub0 k (bulkS bIt xs))) ∧ Below w.heap.size w w' := by
  obtain ⟨A, c, rfl⟩ := h.form
  obtain ⟨_, hc, hx⟩ := h.len_
  unfold maxLen at hx
  by_cases hbig : k - (xs.length : Int) < 0
  · rw [sub0_neg (show k - ((bulkS bIt xs : Nat) : Int) < 0 by have := bulkS_len (f := bIt) (l := xs); omega)]
    go_enter Try.func80, Try.ntmps80
    go_wp2_with fail
    go_ret
    exact ⟨rfl, Below.refl _ _⟩
  generalize hq : sub0 k (bulkS bIt xs) = q
  have HQ := Lib.hid hq; clear hq
  go_enter Try.func80, Try.ntmps80
  go_wp2_with fail
  go_loopw [1, 5] (fun kk ii wr => ∃ j : Nat, j ≤ xs.length ∧ ii = .int .i64 j ∧ kk = .int .i64 (k - (bulkTo bIt xs j : Nat)) ∧ 0 ≤ k - ((bulkTo bIt xs j : Nat) : Int) ∧ Below w.heap.size w wr) (fun _ ii _ => xs.length - (intOf ii).toNat)
  case atStart => exact ⟨0, Nat.zero_le _, rfl, by rw [bulkTo_zero], by rw [bulkTo_zero]; omega, Below.refl _ _⟩
  case round =>
    obtain ⟨j, hj, rfl, rfl, hge, hbr⟩ := hrel
    by_cases hlt : j < xs.length
    · obtain ⟨x, hxk⟩ := some_of_lt hlt
      have hst := bulkTo_step (f := bIt) hxk
      have hle := bulkTo_le (f := bIt) (l := xs) (j := j + 1)
      have HST := Lib.hid hst; clear hst
      have HLE := Lib.hid hle; clear hle
      obtain ⟨b, off, es, rfl, _, hbb, _, ⟨rfl, hgd⟩, hcc⟩ := (RItsL.loc.below h hbr hhi).at_ hxk
      have hc0 : wr.cell? ⟨b, off + j * 2, none⟩ = some (.int .i64 x.n) := by simpa using hcc 0 _ rfl
      have hc1 : wr.cell? ⟨b, off + j * 2 + 1, none⟩ = some (.string x.b) := by simpa using hcc 1 _ rfl
      clear hcc
      have HX := Lib.hid hxk; clear hxk
      have hz : ∃ z : Int, z = k - ((bulkTo bIt xs j : Nat) : Int) ∧ 0 ≤ z ∧ z ≤ 1048576 := ⟨_, rfl, hge, by omega⟩
      obtain ⟨z, hz, hz0, hz1⟩ := hz
      rw [← hz]
      have HZ := Lib.hid hz; clear hz hge
      go_wp2_with fail
      refine (szItem_any x _ _ hgd.2 hz0 hz1).mono ?_
      rintro e w1 ⟨rfl, hb1⟩
      by_cases hn : z - ((bIt x : Nat) : Int) < 0
      · rw [sub0_neg hn]
        have hq1 : (-1 : Int) = q := by rw [← HQ.out, sub0_neg (show k - ((bulkS bIt xs : Nat) : Int) < 0 by have h1 := HST.out; have h2 := HLE.out; have h3 := HZ.out; omega)]
        have HQ1 := Lib.hid hq1; clear hq1 hn
        go_wp2_with fail
        go_ret
        exact ⟨ret_int HQ1.out, below_below hbr hb1⟩
      · rw [sub0_pos (show 0 ≤ z - ((bIt x : Nat) : Int) by omega)]
        have hy : ∃ y : Int, y = z - ((bIt x : Nat) : Int) ∧ 0 ≤ y := ⟨_, rfl, by omega⟩
        obtain ⟨y, hy, hy0⟩ := hy
        rw [← hy]
        have HY := Lib.hid hy; clear hy hn
        go_wp2_with fail
        go_roundw
        case rel => exact ⟨j + 1, by omega, by go_num, by have h1 := HST.out; have h3 := HZ.out; have h4 := HY.out; exact congrArg (Value.int .i64) (by omega), by have h1 := HST.out; have h3 := HZ.out; have h4 := HY.out; omega, below_below hbr hb1⟩
        case measure => simp [intOf]; omega
    · obtain rfl : j = xs.length := by omega
      rw [bulkTo_all] at hge ⊢
      have hz : ∃ z : Int, z = k - ((bulkS bIt xs : Nat) : Int) ∧ 0 ≤ z ∧ z ≤ 1048576 := ⟨_, rfl, hge, by omega⟩
      obtain ⟨z, hz, hz0, hz1⟩ := hz
      rw [← hz]
      have hq1 : z = q := by rw [← HQ.out, sub0_pos hge]; exact hz
      have HQ1 := Lib.hid hq1
      clear hz hge hq1
      go_wp2_with fail
      go_ret
      exact ⟨ret_int HQ1.out, hbr⟩
theorem toItem_any (x : It) (w : World) : Calls Try.prog 121 #[.agg #[.int .i64 x.n, .string x.b]] w fun e w' => e = .returned (.agg #[.int .i64 x.n, .string x.b]) ∧ Below w.heap.size w w' := by
  go_enter Try.func121, Try.ntmps121
  go_wp2_with fail
  exact bodyPost_ret (v := .agg #[.int .i64 x.n, .string x.b]) (by simp [results, Try.results121, go_sem]) rfl ⟨rfl, by repeat (first | exact Below.refl _ _ | refine Below.setCell ?_ (by first | (simp; done) | (simp; omega)) _ | refine Below.alloc ?_ (by first | (simp; done) | (simp; omega)) _)⟩
theorem info_oItem : (Try.prog.info? 44).map (fun i => (i.zero, i.size, i.bytes)) = some (some (.agg #[.int .i64 0, .string ⟨#[]⟩]), 2, 24) := by kernel_rfl
def NewOItem (w : World) (xs : List It) (e : Ending) (w' : World) : Prop := ∃ v, e = .returned v ∧ OIts w' w.heap.size w'.heap.size xs [v] ∧ Below w.heap.size w w'
set_option maxHeartbeats 1000000 in
theorem toItemS_any (xs : List It) (v : Value) (w : World) (lo hi : Nat) (h : RItsL w lo hi xs [v]) (hhi : hi ≤ w.heap.size) (hl : bulkS bIt xs ≤ 1048576) :
    Calls Try.prog 81 #[v] w (NewOItem w xs) := by
  obtain ⟨A, c, rfl⟩ := h.form
  have hl2 : xs.length ≤ 1048576 := Nat.le_trans bulkS_len hl
  have hmk := make_flat (P := Try.prog) 35 44 (.agg #[.int .i64 0, .string ⟨#[]⟩]) 2 24 Try.underlying35 info_oItem xs.length (by omega) (by omega) w
  go_enter Try.func81, Try.ntmps81
  go_wp2_with fail
  go_loopw [4] (fun i wr => ∃ k : Nat, k ≤ xs.length ∧ i = .int .i64 k ∧ ORowP 44 (RFlat FIt) 2 (xs.length * 2) wr w.heap.size w.heap.size wr.heap.size (xs.take k) ∧ Below w.heap.size w wr) (fun i _ => xs.length - (intOf i).toNat)
  case atStart =>
    refine ⟨0, Nat.zero_le _, rfl, ?_, (Below.refl _ _).alloc (Nat.le_refl _) _⟩
    have := ORowP.new 44 (RFlat FIt) 2 w (madeCells #[.int .i64 0, .string ⟨#[]⟩] (xs.length * 2))
    rw [size_madeCells] at this
    exact this
  case round =>
    obtain ⟨k, hk, rfl, hp, hb⟩ := hrel
    by_cases hlt : k < xs.length
    · obtain ⟨x, hxk⟩ := some_of_lt hlt
      obtain ⟨b, off, es, rfl, _, hbb, _, ⟨rfl, hgd⟩, hcc⟩ := (RItsL.loc.below h hb hhi).at_ hxk
      have hc0 : wr.cell? ⟨b, off + k * 2, none⟩ = some (.int .i64 x.n) := by simpa using hcc 0 _ rfl
      have hc1 : wr.cell? ⟨b, off + k * 2 + 1, none⟩ = some (.string x.b) := by simpa using hcc 1 _ rfl
      clear hcc
      have hnext := take_succ hxk
      have HX := Lib.hid hxk; clear hxk
      have HN := Lib.hid hnext; clear hnext
      go_wp2_with fail
      refine (toItem_any x _).mono ?_
      rintro e w1 ⟨rfl, hb1⟩
      have hy : (RFlat FIt) w1 wr.heap.size w1.heap.size x [.int .i64 x.n, .string x.b] := ⟨rfl, hgd⟩
      have hp1 := hp.chg (RFlat.tloc FIt) hb1 (Nat.le_refl _)
      have hlk : (xs.take k).length = k := by rw [List.length_take, Nat.min_eq_left hk]
      obtain ⟨u0, hold0⟩ := hp1.there (j := k * 2) (by omega)
      obtain ⟨u1, hold1⟩ := hp1.there (j := k * 2 + 1) (by omega)
      have hfz0 := hp1.frozen (k * 2)
      have hfz1 := hp1.frozen (k * 2 + 1)
      have hq := hp1.push2 (RFlat.tloc FIt) (by decide) (y := x) (u0 := .int .i64 x.n) (u1 := .string x.b) rfl rfl hb1.size hy (by rw [hlk]; omega)
      rw [hlk, ← HN.out] at hq
      have HQ := Lib.hid hq; clear hq
      have HL := Lib.hid hlk; clear hlk
      go_wp2_with fail
      go_roundw
      case rel => exact ⟨k + 1, by omega, by go_num, by simp only [World.size_setCell]; exact HQ.out, ((hb.trans (hb1.mono hb.size)).setCell (Nat.le_refl _) _).setCell (Nat.le_refl _) _⟩
      case measure => simp [intOf]; omega
    · obtain rfl : k = xs.length := by omega
      rw [List.take_length] at hp
      go_wp2_with fail
      go_ret
      exact ⟨_, rfl, hp.own (by unfold maxLen; omega), hb⟩
theorem eqItem_any (x y : It) (w : World) (b : Bool) (hb : b = true ↔ x = y) : Calls Try.prog 122 #[.agg #[.int .i64 x.n, .string x.b], .agg #[.int .i64 y.n, .string y.b]] w fun e w' => e = .returned (.bool b) ∧ Below w.heap.size w w' := by
  have HB := Lib.hid hb; clear hb
  by_cases e0 : x.n = y.n
  · have t0 : (x.n != y.n) = false := by rw [bne_eq_false_iff_eq]; exact e0
    have E0 := Lib.hid e0; clear e0
    by_cases e1 : x.b = y.b
    · have t1 : (x.b.toList == y.b.toList) = true := by rw [e1, beq_iff_eq]
      have E1 := Lib.hid e1; clear e1
      have hbt : b = true := HB.out.2 (by cases x; cases y; simp only [It.mk.injEq]; exact ⟨E0.out, E1.out⟩)
      have HT := Lib.hid hbt; clear hbt
      go_enter Try.func122, Try.ntmps122
      go_wp2_with fail
      go_ret
      exact ⟨ret_bool HT.out.symm, by repeat (first | exact Below.refl _ _ | refine Below.alloc ?_ (by simp) _)⟩
    · have t1 : (x.b.toList == y.b.toList) = false := str_ne e1
      have hbf : b = false := by rw [← Bool.not_eq_true, HB.out]; rintro rfl; exact e1 rfl
      have HT := Lib.hid hbf; clear hbf e1
      go_enter Try.func122, Try.ntmps122
      go_wp2_with fail
      go_ret
      exact ⟨ret_bool HT.out.symm, by repeat (first | exact Below.refl _ _ | refine Below.alloc ?_ (by simp) _)⟩
  · have t0 : (x.n != y.n) = true := by rw [bne_iff_ne]; exact e0
    have hbf : b = false := by rw [← Bool.not_eq_true, HB.out]; rintro rfl; exact e0 rfl
    have HT := Lib.hid hbf; clear hbf e0
    go_enter Try.func122, Try.ntmps122
    go_wp2_with fail
    go_ret
    exact ⟨ret_bool HT.out.symm, by repeat (first | exact Below.refl _ _ | refine Below.alloc ?_ (by simp) _)⟩
set_option maxHeartbeats 1000000 in
theorem eqItemS_any (xs ys : List It) (v1 v2 : Value) (w : World) (lo hi lo' hi' : Nat) (h1 : RItsL w lo hi xs [v1]) (h2 : RItsL w lo' hi' ys [v2]) (hh1 : hi ≤ w.heap.size) (hh2 : hi' ≤ w.heap.size) (b : Bool) (hb : b = true ↔ xs = ys) :
    Calls Try.prog 84 #[v1, v2] w fun e w' => e = .returned (.bool b) ∧ Below w.heap.size w w' := by
  have HB := Lib.hid hb; clear hb
  obtain ⟨A, c, rfl⟩ := h1.form
  obtain ⟨B, d, rfl⟩ := h2.form
  obtain ⟨_, hc, hx⟩ := h1.len_
  unfold maxLen at hx
  by_cases hlen : xs.length = ys.length
  · have t1 : ((xs.length : Int) != ys.length) = false := by rw [bne_eq_false_iff_eq]; omega
    have HL := Lib.hid hlen; clear hlen
    go_enter Try.func84, Try.ntmps84
    go_wp2_with fail
    go_loopw [5] (fun i wr => ∃ k : Nat, k ≤ xs.length ∧ i = .int .i64 k ∧ xs.take k = ys.take k ∧ Below w.heap.size w wr) (fun i _ => xs.length - (intOf i).toNat)
    case atStart => exact ⟨0, Nat.zero_le _, rfl, rfl, Below.refl _ _⟩
    case round =>
      obtain ⟨k, hk, rfl, he, hbr⟩ := hrel
      have HE := Lib.hid he; clear he
      by_cases hlt : k < xs.length
      · obtain ⟨x, hxk⟩ := some_of_lt hlt
        obtain ⟨y, hyk⟩ := some_of_lt (l := ys) (k := k) (by have := HL.out; omega)
        obtain ⟨b1, off, es, rfl, _, hbb, _, ⟨rfl, hg1⟩, hcc⟩ := (RItsL.loc.below h1 hbr hh1).at_ hxk
        have hc0 : wr.cell? ⟨b1, off + k * 2, none⟩ = some (.int .i64 x.n) := by simpa using hcc 0 _ rfl
        have hc1 : wr.cell? ⟨b1, off + k * 2 + 1, none⟩ = some (.string x.b) := by simpa using hcc 1 _ rfl
        clear hcc
        obtain ⟨b2, off2, es, rfl, _, hbb, _, ⟨rfl, hg2⟩, hcc⟩ := (RItsL.loc.below h2 hbr hh2).at_ hyk
        have hd0 : wr.cell? ⟨b2, off2 + k * 2, none⟩ = some (.int .i64 y.n) := by simpa using hcc 0 _ rfl
        have hd1 : wr.cell? ⟨b2, off2 + k * 2 + 1, none⟩ = some (.string y.b) := by simpa using hcc 1 _ rfl
        clear hcc
        have hly : (k : Int) < (ys.length : Int) := by have := HL.out; omega
        have HX := Lib.hid hxk; have HY := Lib.hid hyk
        clear hxk hyk
        by_cases hxy : x = y
        · have HXY := Lib.hid hxy; clear hxy
          go_wp2_with fail
          have past0 := past_cell hc0
          have past1 := past_cell hc1
          have past2 := past_cell hd0
          have past3 := past_cell hd1
          refine region_past (by kernel_rfl) (by kernel_rfl) ?_
          repeat (go_big_quiet_step (first | (go_at_call 122; refine past_call (eqItem_any x y _ true ?_); (simp only [true_iff]; exact HXY.out))))
          refine wpQuiet_nil ?_
          intro wq hw1
          have hq := past_out hw1
          clear hw1 past0 past1 past2 past3
          go_wp2_with fail
          go_roundw
          case rel => first | exact ⟨k + 1, by omega, by go_num, by rw [take_succ HX.out, take_succ HY.out, HE.out, HXY.out], hbr.trans (hq.mono hbr.size)⟩ | ((repeat apply Exists.intro); refine ⟨?_, rfl⟩; exact ⟨k + 1, by omega, by go_num, by rw [take_succ HX.out, take_succ HY.out, HE.out, HXY.out], hbr.trans (hq.mono hbr.size)⟩)
          case measure => simp [intOf]; omega
        · have hf : b = false := by
            rw [← Bool.not_eq_true, HB.out]
            rintro rfl
            exact hxy (Option.some.inj (HX.out.symm.trans HY.out))
          have HF := Lib.hid hf; clear hf
          have HXY := Lib.hid hxy; clear hxy
          go_wp2_with fail
          have past0 := past_cell hc0
          have past1 := past_cell hc1
          have past2 := past_cell hd0
          have past3 := past_cell hd1
          refine region_past (by kernel_rfl) (by kernel_rfl) ?_
          repeat (go_big_quiet_step (first | (go_at_call 122; refine past_call (eqItem_any x y _ false ?_); (simp only [Bool.false_eq_true, false_iff]; exact HXY.out))))
          refine wpQuiet_nil ?_
          intro wq hw1
          have hq := past_out hw1
          clear hw1 past0 past1 past2 past3
          go_wp2_with fail
          go_ret
          exact ⟨ret_bool HF.out.symm, hbr.trans (hq.mono hbr.size)⟩
      · obtain rfl : k = xs.length := by omega
        have ht : b = true := by
          rw [HB.out]
          have := HE.out
          rwa [List.take_length, List.take_of_length_le (by have := HL.out; omega)] at this
        have HF := Lib.hid ht; clear ht
        go_wp2_with fail
        go_ret
        exact ⟨ret_bool HF.out.symm, hbr⟩
  · have t1 : ((xs.length : Int) != ys.length) = true := by rw [bne_iff_ne]; omega
    have hf : b = false := by
      rw [← Bool.not_eq_true, HB.out]
      rintro rfl
      exact hlen rfl
    have HF := Lib.hid hf; clear hf
    have HL := Lib.hid hlen; clear hlen
    go_enter Try.func84, Try.ntmps84
    go_wp2_with fail
    go_ret
    exact ⟨ret_bool HF.out.symm, Below.refl _ _⟩
end Go.Proofs.Ytanppokbjladfaa
