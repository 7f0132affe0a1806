/- EItem, EPack, EInt, EListed, ESnap, EHead, ESto. -/
import Derived.Test.YtpdkgpbfmpekgaaGreatDoorSt
import Derived.Test.YtpdkgpbfmpekgaaGreatDoorMkI



/- The helpers of the exact laws for Item. -/
namespace Go.Proofs.YtpdkgpbfmpekgaaGreatDoor
open Go.RowKit

theorem szItem_any (x : It) (k : Int) (w : World) (hx : x.b.size ≤ maxLen) (hk : 0 ≤ k) (hk' : k ≤ 1048576) : Calls Tryz.prog 275 #[.agg #[.int .i64 x.n, .string x.b], .int .i64 k] w fun e w' => e = .returned (.int .i64 (sub0 k (bIt x))) ∧ Below w.heap.size w w' := by
  unfold maxLen at hx
  by_cases h : k - (x.b.size : Int) < 0
  · rw [sub0_neg (show k - ((bIt x : Nat) : Int) < 0 from h)]
    go_enter Tryz.func275, Tryz.ntmps275
    go_wp2_with fail
    go_ret
    exact ⟨rfl, below_alloc _ _⟩
  · rw [sub0_pos (show (0 : Int) ≤ k - (bIt x : Int) by unfold bIt; omega)]
    unfold bIt
    go_enter Tryz.func275, Tryz.ntmps275
    go_wp2_with fail
    go_ret
    exact ⟨rfl, below_alloc _ _⟩
set_option maxHeartbeats 1000000 in
theorem szItemS_any (xs : List It) (v : Value) (k : Int) (w : World) (lo hi : Nat) (h : RItsL w lo hi xs [v]) (hhi : hi ≤ w.heap.size) (hk : 0 ≤ k) (hk' : k ≤ 1048576) :
    Calls Tryz.prog 215 #[v, .int .i64 k] w fun e w' => e = .returned (.int .i64 (sub0 k (bulkS bIt xs))) ∧ Below w.heap.size w w' := by
  obtain ⟨A, c, rfl⟩ := h.form
  obtain ⟨_, hc, hx⟩ := h.len_
  unfold maxLen at hx
  by_cases hbig : k - (xs.length : Int) < 0
  · rw [sub0_neg (show k - ((bulkS bIt xs : Nat) : Int) < 0 by have := bulkS_len (f := bIt) (l := xs); omega)]
    go_enter Tryz.func215, Tryz.ntmps215
    go_wp2_with fail
    go_ret
    exact ⟨rfl, Below.refl _ _⟩
  generalize hq : sub0 k (bulkS bIt xs) = q
  have HQ := Lib.hid hq; clear hq
  go_enter Tryz.func215, Tryz.ntmps215
  go_wp2_with fail
  go_loopw [1, 5] (fun kk ii wr => ∃ j : Nat, j ≤ xs.length ∧ ii = .int .i64 j ∧ kk = .int .i64 (k - (bulkTo bIt xs j : Nat)) ∧ 0 ≤ k - ((bulkTo bIt xs j : Nat) : Int) ∧ Below w.heap.size w wr) (fun _ ii _ => xs.length - (intOf ii).toNat)
  case atStart => exact ⟨0, Nat.zero_le _, rfl, by rw [bulkTo_zero], by rw [bulkTo_zero]; omega, Below.refl _ _⟩
  case round =>
    obtain ⟨j, hj, rfl, rfl, hge, hbr⟩ := hrel
    by_cases hlt : j < xs.length
    · obtain ⟨x, hxk⟩ := some_of_lt hlt
      have hst := bulkTo_step (f := bIt) hxk
      have hle := bulkTo_le (f := bIt) (l := xs) (j := j + 1)
      have HST := Lib.hid hst; clear hst
      have HLE := Lib.hid hle; clear hle
      obtain ⟨b, off, es, rfl, _, hbb, _, ⟨rfl, hgd⟩, hcc⟩ := (RItsL.loc.below h hbr hhi).at_ hxk
      have hc0 : wr.cell? ⟨b, off + j * 2, none⟩ = some (.int .i64 x.n) := by simpa using hcc 0 _ rfl
      have hc1 : wr.cell? ⟨b, off + j * 2 + 1, none⟩ = some (.string x.b) := by simpa using hcc 1 _ rfl
      clear hcc
      have HX := Lib.hid hxk; clear hxk
      have hz : ∃ z : Int, z = k - ((bulkTo bIt xs j : Nat) : Int) ∧ 0 ≤ z ∧ z ≤ 1048576 := ⟨_, rfl, hge, by omega⟩
      obtain ⟨z, hz, hz0, hz1⟩ := hz
      rw [← hz]
      have HZ := Lib.hid hz; clear hz hge
      go_wp2_with fail
      refine (szItem_any x _ _ hgd.2 hz0 hz1).mono ?_
      rintro e w1 ⟨rfl, hb1⟩
      by_cases hn : z - ((bIt x : Nat) : Int) < 0
      · rw [sub0_neg hn]
        have hq1 : (-1 : Int) = q := by rw [← HQ.out, sub0_neg (show k - ((bulkS bIt xs : Nat) : Int) < 0 by have h1 := HST.out; have h2 := HLE.out; have h3 := HZ.out; omega)]
        have HQ1 := Lib.hid hq1; clear hq1 hn
        go_wp2_with fail
        go_ret
        exact ⟨ret_int HQ1.out, below_below hbr hb1⟩
      · rw [sub0_pos (show 0 ≤ z - ((bIt x : Nat) : Int) by omega)]
        have hy : ∃ y : Int, y = z - ((bIt x : Nat) : Int) ∧ 0 ≤ y := ⟨_, rfl, by omega⟩
        obtain ⟨y, hy, hy0⟩ := hy
        rw [← hy]
        have HY := Lib.hid hy; clear hy hn
        go_wp2_with fail
        go_roundw
        case rel => exact ⟨j + 1, by omega, by go_num, by have h1 := HST.out; have h3 := HZ.out; have h4 := HY.out; exact congrArg (Value.int .i64) (by omega), by have h1 := HST.out; have h3 := HZ.out; have h4 := HY.out; omega, below_below hbr hb1⟩
        case measure => simp [intOf]; omega
    · obtain rfl : j = xs.length := by omega
      rw [bulkTo_all] at hge ⊢
      have hz : ∃ z : Int, z = k - ((bulkS bIt xs : Nat) : Int) ∧ 0 ≤ z ∧ z ≤ 1048576 := ⟨_, rfl, hge, by omega⟩
      obtain ⟨z, hz, hz0, hz1⟩ := hz
      rw [← hz]
      have hq1 : z = q := by rw [← HQ.out, sub0_pos hge]; exact hz
      have HQ1 := Lib.hid hq1
      clear hz hge hq1
      go_wp2_with fail
      go_ret
      exact ⟨ret_int HQ1.out, hbr⟩
theorem toItem_any (x : It) (w : World) : Calls Tryz.prog 277 #[.agg #[.int .i64 x.n, .string x.b]] w fun e w' => e = .returned (.agg #[.int .i64 x.n, .string x.b]) ∧ Below w.heap.size w w' := by
  go_enter Tryz.func277, Tryz.ntmps277
  go_wp2_with fail
  exact bodyPost_ret (v := .agg #[.int .i64 x.n, .string x.b]) (by simp [results, Tryz.results277, go_sem]) rfl ⟨rfl, by repeat (first | exact Below.refl _ _ | refine Below.setCell ?_ (by first | (simp; done) | (simp; omega)) _ | refine Below.alloc ?_ (by first | (simp; done) | (simp; omega)) _)⟩
theorem info_oItem : (Tryz.prog.info? 110).map (fun i => (i.zero, i.size, i.bytes)) = some (some (.agg #[.int .i64 0, .string ⟨#[]⟩]), 2, 24) := by kernel_rfl
def NewOItem (w : World) (xs : List It) (e : Ending) (w' : World) : Prop := ∃ v, e = .returned v ∧ OIts w' w.heap.size w'.heap.size xs [v] ∧ Below w.heap.size w w'
set_option maxHeartbeats 1000000 in
theorem toItemS_any (xs : List It) (v : Value) (w : World) (lo hi : Nat) (h : RItsL w lo hi xs [v]) (hhi : hi ≤ w.heap.size) (hl : bulkS bIt xs ≤ 1048576) :
    Calls Tryz.prog 217 #[v] w (NewOItem w xs) := by
  obtain ⟨A, c, rfl⟩ := h.form
  have hl2 : xs.length ≤ 1048576 := Nat.le_trans bulkS_len hl
  have hmk := make_flat (P := Tryz.prog) 38 110 (.agg #[.int .i64 0, .string ⟨#[]⟩]) 2 24 Tryz.underlying38 info_oItem xs.length (by omega) (by omega) w
  go_enter Tryz.func217, Tryz.ntmps217
  go_wp2_with fail
  go_loopw [4] (fun i wr => ∃ k : Nat, k ≤ xs.length ∧ i = .int .i64 k ∧ ORowP 110 (RFlat FIt) 2 (xs.length * 2) wr w.heap.size w.heap.size wr.heap.size (xs.take k) ∧ Below w.heap.size w wr) (fun i _ => xs.length - (intOf i).toNat)
  case atStart =>
    refine ⟨0, Nat.zero_le _, rfl, ?_, (Below.refl _ _).alloc (Nat.le_refl _) _⟩
    have := ORowP.new 110 (RFlat FIt) 2 w (madeCells #[.int .i64 0, .string ⟨#[]⟩] (xs.length * 2))
    rw [size_madeCells] at this
    exact this
  case round =>
    obtain ⟨k, hk, rfl, hp, hb⟩ := hrel
    by_cases hlt : k < xs.length
    · obtain ⟨x, hxk⟩ := some_of_lt hlt
      obtain ⟨b, off, es, rfl, _, hbb, _, ⟨rfl, hgd⟩, hcc⟩ := (RItsL.loc.below h hb hhi).at_ hxk
      have hc0 : wr.cell? ⟨b, off + k * 2, none⟩ = some (.int .i64 x.n) := by simpa using hcc 0 _ rfl
      have hc1 : wr.cell? ⟨b, off + k * 2 + 1, none⟩ = some (.string x.b) := by simpa using hcc 1 _ rfl
      clear hcc
      have hnext := take_succ hxk
      have HX := Lib.hid hxk; clear hxk
      have HN := Lib.hid hnext; clear hnext
      go_wp2_with fail
      refine (toItem_any x _).mono ?_
      rintro e w1 ⟨rfl, hb1⟩
      have hy : (RFlat FIt) w1 wr.heap.size w1.heap.size x [.int .i64 x.n, .string x.b] := ⟨rfl, hgd⟩
      have hp1 := hp.chg (RFlat.tloc FIt) hb1 (Nat.le_refl _)
      have hlk : (xs.take k).length = k := by rw [List.length_take, Nat.min_eq_left hk]
      obtain ⟨u0, hold0⟩ := hp1.there (j := k * 2) (by omega)
      obtain ⟨u1, hold1⟩ := hp1.there (j := k * 2 + 1) (by omega)
      have hfz0 := hp1.frozen (k * 2)
      have hfz1 := hp1.frozen (k * 2 + 1)
      have hq := hp1.push2 (RFlat.tloc FIt) (by decide) (y := x) (u0 := .int .i64 x.n) (u1 := .string x.b) rfl rfl hb1.size hy (by rw [hlk]; omega)
      rw [hlk, ← HN.out] at hq
      have HQ := Lib.hid hq; clear hq
      have HL := Lib.hid hlk; clear hlk
      go_wp2_with fail
      go_roundw
      case rel => exact ⟨k + 1, by omega, by go_num, by simp only [World.size_setCell]; exact HQ.out, ((hb.trans (hb1.mono hb.size)).setCell (Nat.le_refl _) _).setCell (Nat.le_refl _) _⟩
      case measure => simp [intOf]; omega
    · obtain rfl : k = xs.length := by omega
      rw [List.take_length] at hp
      go_wp2_with fail
      go_ret
      exact ⟨_, rfl, hp.own (by unfold maxLen; omega), hb⟩
theorem eqItem_any (x y : It) (w : World) (b : Bool) (hb : b = true ↔ x = y) : Calls Tryz.prog 279 #[.agg #[.int .i64 x.n, .string x.b], .agg #[.int .i64 y.n, .string y.b]] w fun e w' => e = .returned (.bool b) ∧ Below w.heap.size w w' := by
  have HB := Lib.hid hb; clear hb
  by_cases e0 : x.n = y.n
  · have t0 : (x.n != y.n) = false := by rw [bne_eq_false_iff_eq]; exact e0
    have E0 := Lib.hid e0; clear e0
    by_cases e1 : x.b = y.b
    · have t1 : (x.b.toList == y.b.toList) = true := by rw [e1, beq_iff_eq]
      have E1 := Lib.hid e1; clear e1
      have hbt : b = true := HB.out.2 (by cases x; cases y; simp only [It.mk.injEq]; exact ⟨E0.out, E1.out⟩)
      have HT := Lib.hid hbt; clear hbt
      go_enter Tryz.func279, Tryz.ntmps279
      go_wp2_with fail
      go_ret
      exact ⟨ret_bool HT.out.symm, by repeat (first | exact Below.refl _ _ | refine Below.alloc ?_ (by simp) _)⟩
    · have t1 : (x.b.toList == y.b.toList) = false := str_ne e1
      have hbf : b = false := by rw [← Bool.not_eq_true, HB.out]; rintro rfl; exact e1 rfl
      have HT := Lib.hid hbf; clear hbf e1
      go_enter Tryz.func279, Tryz.ntmps279
      go_wp2_with fail
      go_ret
      exact ⟨ret_bool HT.out.symm, by repeat (first | exact Below.refl _ _ | refine Below.alloc ?_ (by simp) _)⟩
  · have t0 : (x.n != y.n) = true := by rw [bne_iff_ne]; exact e0
    have hbf : b = false := by rw [← Bool.not_eq_true, HB.out]; rintro rfl; exact e0 rfl
    have HT := Lib.hid hbf; clear hbf e0
    go_enter Tryz.func279, Tryz.ntmps279
    go_wp2_with fail
    go_ret
    exact ⟨ret_bool HT.out.symm, by repeat (first | exact Below.refl _ _ | refine Below.alloc ?_ (by simp) _)⟩
set_option maxHeartbeats 1000000 in
theorem eqItemS_any (xs ys : List It) (v1 v2 : Value) (w : World) (lo hi lo' hi' : Nat) (h1 : RItsL w lo hi xs [v1]) (h2 : RItsL w lo' hi' ys [v2]) (hh1 : hi ≤ w.heap.size) (hh2 : hi' ≤ w.heap.size) (b : Bool) (hb : b = true ↔ xs = ys) :
    Calls Tryz.prog 219 #[v1, v2] w fun e w' => e = .returned (.bool b) ∧ Below w.heap.size w w' := by
  have HB := Lib.hid hb; clear hb
  obtain ⟨A, c, rfl⟩ := h1.form
  obtain ⟨B, d, rfl⟩ := h2.form
  obtain ⟨_, hc, hx⟩ := h1.len_
  unfold maxLen at hx
  by_cases hlen : xs.length = ys.length
  · have t1 : ((xs.length : Int) != ys.length) = false := by rw [bne_eq_false_iff_eq]; omega
    have HL := Lib.hid hlen; clear hlen
    go_enter Tryz.func219, Tryz.ntmps219
    go_wp2_with fail
    go_loopw [5] (fun i wr => ∃ k : Nat, k ≤ xs.length ∧ i = .int .i64 k ∧ xs.take k = ys.take k ∧ Below w.heap.size w wr) (fun i _ => xs.length - (intOf i).toNat)
    case atStart => exact ⟨0, Nat.zero_le _, rfl, rfl, Below.refl _ _⟩
    case round =>
      obtain ⟨k, hk, rfl, he, hbr⟩ := hrel
      have HE := Lib.hid he; clear he
      by_cases hlt : k < xs.length
      · obtain ⟨x, hxk⟩ := some_of_lt hlt
        obtain ⟨y, hyk⟩ := some_of_lt (l := ys) (k := k) (by have := HL.out; omega)
        obtain ⟨b1, off, es, rfl, _, hbb, _, ⟨rfl, hg1⟩, hcc⟩ := (RItsL.loc.below h1 hbr hh1).at_ hxk
        have hc0 : wr.cell? ⟨b1, off + k * 2, none⟩ = some (.int .i64 x.n) := by simpa using hcc 0 _ rfl
        have hc1 : wr.cell? ⟨b1, off + k * 2 + 1, none⟩ = some (.string x.b) := by simpa using hcc 1 _ rfl
        clear hcc
        obtain ⟨b2, off2, es, rfl, _, hbb, _, ⟨rfl, hg2⟩, hcc⟩ := (RItsL.loc.below h2 hbr hh2).at_ hyk
        have hd0 : wr.cell? ⟨b2, off2 + k * 2, none⟩ = some (.int .i64 y.n) := by simpa using hcc 0 _ rfl
        have hd1 : wr.cell? ⟨b2, off2 + k * 2 + 1, none⟩ = some (.string y.b) := by simpa using hcc 1 _ rfl
        clear hcc
        have hly : (k : Int) < (ys.length : Int) := by have := HL.out; omega
        have HX := Lib.hid hxk; have HY := Lib.hid hyk
        clear hxk hyk
        by_cases hxy : x = y
        · have HXY := Lib.hid hxy; clear hxy
          go_wp2_with fail
          have past0 := past_cell hc0
          have past1 := past_cell hc1
          have past2 := past_cell hd0
          have past3 := past_cell hd1
          refine region_past (by kernel_rfl) (by kernel_rfl) ?_
          repeat (go_big_quiet_step (first | (go_at_call 279; refine past_call (eqItem_any x y _ true ?_); (simp only [true_iff]; exact HXY.out))))
          refine wpQuiet_nil ?_
          intro wq hw1
          have hq := past_out hw1
          clear hw1 past0 past1 past2 past3
          go_wp2_with fail
          go_roundw
          case rel => first | exact ⟨k + 1, by omega, by go_num, by rw [take_succ HX.out, take_succ HY.out, HE.out, HXY.out], hbr.trans (hq.mono hbr.size)⟩ | ((repeat apply Exists.intro); refine ⟨?_, rfl⟩; exact ⟨k + 1, by omega, by go_num, by rw [take_succ HX.out, take_succ HY.out, HE.out, HXY.out], hbr.trans (hq.mono hbr.size)⟩)
          case measure => simp [intOf]; omega
        · have hf : b = false := by
            rw [← Bool.not_eq_true, HB.out]
            rintro rfl
            exact hxy (Option.some.inj (HX.out.symm.trans HY.out))
          have HF := Lib.hid hf; clear hf
          have HXY := Lib.hid hxy; clear hxy
          go_wp2_with fail
          have past0 := past_cell hc0
          have past1 := past_cell hc1
          have past2 := past_cell hd0
          have past3 := past_cell hd1
          refine region_past (by kernel_rfl) (by kernel_rfl) ?_
          repeat (go_big_quiet_step (first | (go_at_call 279; refine past_call (eqItem_any x y _ false ?_); (simp only [Bool.false_eq_true, false_iff]; exact HXY.out))))
          refine wpQuiet_nil ?_
          intro wq hw1
          have hq := past_out hw1
          clear hw1 past0 past1 past2 past3
          go_wp2_with fail
          go_ret
          exact ⟨ret_bool HF.out.symm, hbr.trans (hq.mono hbr.size)⟩
      · obtain rfl : k = xs.length := by omega
        have ht : b = true := by
          rw [HB.out]
          have := HE.out
          rwa [List.take_length, List.take_of_length_le (by have := HL.out; omega)] at this
        have HF := Lib.hid ht; clear ht
        go_wp2_with fail
        go_ret
        exact ⟨ret_bool HF.out.symm, hbr⟩
  · have t1 : ((xs.length : Int) != ys.length) = true := by rw [bne_iff_ne]; omega
    have hf : b = false := by
      rw [← Bool.not_eq_true, HB.out]
      rintro rfl
      exact hlen rfl
    have HF := Lib.hid hf; clear hf
    have HL := Lib.hid hlen; clear hlen
    go_enter Tryz.func219, Tryz.ntmps219
    go_wp2_with fail
    go_ret
    exact ⟨ret_bool HF.out.symm, Below.refl _ _⟩
end Go.Proofs.YtpdkgpbfmpekgaaGreatDoor




/- The helpers of the exact laws for Pack. -/
namespace Go.Proofs.YtpdkgpbfmpekgaaGreatDoor
open Go.RowKit

theorem szPack_any (x : Pk) (v : Value) (k : Int) (w : World) (lo hi : Nat) (h : RItsL w lo hi x.its [v]) (hhi : hi ≤ w.heap.size) (hk : 0 ≤ k) (hk' : k ≤ 1048576) : Calls Tryz.prog 158 #[.agg #[.int .i64 x.no, v], .int .i64 k] w fun e w' => e = .returned (.int .i64 (sub0 k (bPk x))) ∧ Below w.heap.size w w' := by
  obtain ⟨A, c, rfl⟩ := RSl.form h
  show Calls _ _ _ _ fun e w' => e = .returned (.int .i64 (sub0 k (bulkS bIt x.its))) ∧ _
  by_cases h1 : k - ((bulkS bIt x.its : Nat) : Int) < 0
  · rw [sub0_neg h1]
    have hq := sub0_neg h1
    have HQ := Lib.hid hq; clear hq h1
    go_enter Tryz.func158, Tryz.ntmps158
    go_wp2_with fail
    have ba := below_alloc w (.cells #[.int .i64 x.no, .slice A x.its.length c] 210)
    refine (szItemS_any x.its _ k _ lo hi (RItsL.loc.below h ba hhi) (Nat.le_trans hhi ba.size) hk hk').mono ?_
    rintro e w1 ⟨rfl, b1⟩
    rw [HQ.out]
    go_wp2_with fail
    go_ret
    exact ⟨rfl, below_below ba b1⟩
  · have hq := sub0_pos (k := k) (b := bulkS bIt x.its) (by omega)
    have hz : ∃ z : Int, sub0 k (bulkS bIt x.its) = z ∧ 0 ≤ z ∧ z ≤ 1048576 := ⟨_, rfl, by omega, by omega⟩
    obtain ⟨z, hz, hz0, hz1⟩ := hz
    rw [hz]
    have HQ := Lib.hid hz; clear hq h1 hz
    go_enter Tryz.func158, Tryz.ntmps158
    go_wp2_with fail
    have ba := below_alloc w (.cells #[.int .i64 x.no, .slice A x.its.length c] 210)
    refine (szItemS_any x.its _ k _ lo hi (RItsL.loc.below h ba hhi) (Nat.le_trans hhi ba.size) hk hk').mono ?_
    rintro e w1 ⟨rfl, b1⟩
    rw [HQ.out]
    go_wp2_with fail
    go_ret
    exact ⟨rfl, below_below ba b1⟩
set_option maxHeartbeats 1000000 in
theorem szPackS_any (xs : List Pk) (v : Value) (k : Int) (w : World) (lo hi : Nat) (h : RPksL w lo hi xs [v]) (hhi : hi ≤ w.heap.size) (hk : 0 ≤ k) (hk' : k ≤ 1048576) :
    Calls Tryz.prog 105 #[v, .int .i64 k] w fun e w' => e = .returned (.int .i64 (sub0 k (bulkS bPk xs))) ∧ Below w.heap.size w w' := by
  obtain ⟨A, c, rfl⟩ := h.form
  obtain ⟨_, hc, hx⟩ := h.len_
  unfold maxLen at hx
  by_cases hbig : k - (xs.length : Int) < 0
  · rw [sub0_neg (show k - ((bulkS bPk xs : Nat) : Int) < 0 by have := bulkS_len (f := bPk) (l := xs); omega)]
    go_enter Tryz.func105, Tryz.ntmps105
    go_wp2_with fail
    go_ret
    exact ⟨rfl, Below.refl _ _⟩
  generalize hq : sub0 k (bulkS bPk xs) = q
  have HQ := Lib.hid hq; clear hq
  go_enter Tryz.func105, Tryz.ntmps105
  go_wp2_with fail
  go_loopw [1, 5] (fun kk ii wr => ∃ j : Nat, j ≤ xs.length ∧ ii = .int .i64 j ∧ kk = .int .i64 (k - (bulkTo bPk xs j : Nat)) ∧ 0 ≤ k - ((bulkTo bPk xs j : Nat) : Int) ∧ Below w.heap.size w wr) (fun _ ii _ => xs.length - (intOf ii).toNat)
  case atStart => exact ⟨0, Nat.zero_le _, rfl, by rw [bulkTo_zero], by rw [bulkTo_zero]; omega, Below.refl _ _⟩
  case round =>
    obtain ⟨j, hj, rfl, rfl, hge, hbr⟩ := hrel
    by_cases hlt : j < xs.length
    · obtain ⟨x, hxk⟩ := some_of_lt hlt
      have hst := bulkTo_step (f := bPk) hxk
      have hle := bulkTo_le (f := bPk) (l := xs) (j := j + 1)
      have HST := Lib.hid hst; clear hst
      have HLE := Lib.hid hle; clear hle
      obtain ⟨b, off, es, rfl, _, hbb, _, ⟨v2, rfl, hgd, hr⟩, hcc⟩ := (RPksL.loc.below h hbr hhi).at_ hxk
      obtain ⟨A2, c2, rfl⟩ := RSl.form hr
      have hc0 : wr.cell? ⟨b, off + j * 2, none⟩ = some (.int .i64 x.no) := by simpa using hcc 0 _ rfl
      have hc1 : wr.cell? ⟨b, off + j * 2 + 1, none⟩ = some (.slice A2 x.its.length c2) := by simpa using hcc 1 _ rfl
      clear hcc
      have HX := Lib.hid hxk; clear hxk
      have hz : ∃ z : Int, z = k - ((bulkTo bPk xs j : Nat) : Int) ∧ 0 ≤ z ∧ z ≤ 1048576 := ⟨_, rfl, hge, by omega⟩
      obtain ⟨z, hz, hz0, hz1⟩ := hz
      rw [← hz]
      have HZ := Lib.hid hz; clear hz hge
      go_wp2_with fail
      refine (szPack_any x _ _ _ _ _ hr (Nat.le_trans hhi hbr.size) hz0 hz1).mono ?_
      rintro e w1 ⟨rfl, hb1⟩
      by_cases hn : z - ((bPk x : Nat) : Int) < 0
      · rw [sub0_neg hn]
        have hq1 : (-1 : Int) = q := by rw [← HQ.out, sub0_neg (show k - ((bulkS bPk xs : Nat) : Int) < 0 by have h1 := HST.out; have h2 := HLE.out; have h3 := HZ.out; omega)]
        have HQ1 := Lib.hid hq1; clear hq1 hn
        go_wp2_with fail
        go_ret
        exact ⟨ret_int HQ1.out, below_below hbr hb1⟩
      · rw [sub0_pos (show 0 ≤ z - ((bPk x : Nat) : Int) by omega)]
        have hy : ∃ y : Int, y = z - ((bPk x : Nat) : Int) ∧ 0 ≤ y := ⟨_, rfl, by omega⟩
        obtain ⟨y, hy, hy0⟩ := hy
        rw [← hy]
        have HY := Lib.hid hy; clear hy hn
        go_wp2_with fail
        go_roundw
        case rel => exact ⟨j + 1, by omega, by go_num, by have h1 := HST.out; have h3 := HZ.out; have h4 := HY.out; exact congrArg (Value.int .i64) (by omega), by have h1 := HST.out; have h3 := HZ.out; have h4 := HY.out; omega, below_below hbr hb1⟩
        case measure => simp [intOf]; omega
    · obtain rfl : j = xs.length := by omega
      rw [bulkTo_all] at hge ⊢
      have hz : ∃ z : Int, z = k - ((bulkS bPk xs : Nat) : Int) ∧ 0 ≤ z ∧ z ≤ 1048576 := ⟨_, rfl, hge, by omega⟩
      obtain ⟨z, hz, hz0, hz1⟩ := hz
      rw [← hz]
      have hq1 : z = q := by rw [← HQ.out, sub0_pos hge]; exact hz
      have HQ1 := Lib.hid hq1
      clear hz hge hq1
      go_wp2_with fail
      go_ret
      exact ⟨ret_int HQ1.out, hbr⟩
set_option maxHeartbeats 1000000 in
theorem toPack_any (x : Pk) (v : Value) (w : World) (lo hi : Nat) (h : RItsL w lo hi x.its [v]) (hg : In64 x.no) (hhi : hi ≤ w.heap.size) (hl : bulkS bIt x.its ≤ 1048576) :
    Calls Tryz.prog 160 #[.agg #[.int .i64 x.no, v]] w fun e w' => ∃ v', e = .returned (.agg #[.int .i64 x.no, v']) ∧ OPk w' w.heap.size w'.heap.size x [.int .i64 x.no, v'] ∧ Below w.heap.size w w' := by
  obtain ⟨A, c, rfl⟩ := RSl.form h
  go_enter Tryz.func160, Tryz.ntmps160
  go_wp2_with fail
  have hbw0 : Below w.heap.size w (((w.alloc (.cells #[.int .i64 x.no, .slice A x.its.length c] 210)).alloc (.cells #[.int .i64 0, .slice none 0 0] 40)).alloc (.cells #[.int .i64 x.no, .slice none 0 0] 40)) := below_alloc' (below_alloc' (below_alloc _ _) _) _
  have k0 : Blk (((w.alloc (.cells #[.int .i64 x.no, .slice A x.its.length c] 210)).alloc (.cells #[.int .i64 0, .slice none 0 0] 40)).alloc (.cells #[.int .i64 x.no, .slice none 0 0] 40)) (w.heap.size) 210 #[.int .i64 x.no, .slice A x.its.length c] := by
    have hk := blk_alloc (blk_alloc (Blk.new w 210 #[.int .i64 x.no, .slice A x.its.length c]) (.cells #[.int .i64 0, .slice none 0 0] 40)) (.cells #[.int .i64 x.no, .slice none 0 0] 40)
    exact hk
  have k1 : Blk (((w.alloc (.cells #[.int .i64 x.no, .slice A x.its.length c] 210)).alloc (.cells #[.int .i64 0, .slice none 0 0] 40)).alloc (.cells #[.int .i64 x.no, .slice none 0 0] 40)) (w.heap.size + 1) 40 #[.int .i64 0, .slice none 0 0] := by
    have hk := blk_alloc (Blk.new (w.alloc (.cells #[.int .i64 x.no, .slice A x.its.length c] 210)) 40 #[.int .i64 0, .slice none 0 0]) (.cells #[.int .i64 x.no, .slice none 0 0] 40)
    simp only [World.size_alloc] at hk
    exact hk
  have k2 : Blk (((w.alloc (.cells #[.int .i64 x.no, .slice A x.its.length c] 210)).alloc (.cells #[.int .i64 0, .slice none 0 0] 40)).alloc (.cells #[.int .i64 x.no, .slice none 0 0] 40)) (w.heap.size + 1 + 1) 40 #[.int .i64 x.no, .slice none 0 0] := by
    have hk := Blk.new ((w.alloc (.cells #[.int .i64 x.no, .slice A x.its.length c] 210)).alloc (.cells #[.int .i64 0, .slice none 0 0] 40)) 40 #[.int .i64 x.no, .slice none 0 0]
    simp only [World.size_alloc] at hk
    exact hk
  have hsw0 : w.heap.size + 3 ≤ (((w.alloc (.cells #[.int .i64 x.no, .slice A x.its.length c] 210)).alloc (.cells #[.int .i64 0, .slice none 0 0] 40)).alloc (.cells #[.int .i64 x.no, .slice none 0 0] 40)).heap.size := by simp only [World.size_alloc]; omega
  generalize (((w.alloc (.cells #[.int .i64 x.no, .slice A x.its.length c] 210)).alloc (.cells #[.int .i64 0, .slice none 0 0] 40)).alloc (.cells #[.int .i64 x.no, .slice none 0 0] 40)) = w0 at *
  have ck0 := k0.cell
  have fk0 := k0.frozen
  have ck1 := k1.cell
  have fk1 := k1.frozen
  have ck2 := k2.cell
  have fk2 := k2.frozen
  have hhi0 := Nat.le_trans hhi hbw0.size
  refine (toItemS_any x.its _ _ _ _ (RItsL.loc.below h hbw0 hhi) hhi0 hl).mono ?_
  rintro e w1 ⟨v1, rfl, o1, b1⟩
  replace k0 := blk_keep k0 b1
  replace ck0 := k0.cell
  replace fk0 := k0.frozen
  replace k1 := blk_keep k1 b1
  replace ck1 := k1.cell
  replace fk1 := k1.frozen
  replace k2 := blk_keep k2 b1
  replace ck2 := k2.cell
  replace fk2 := k2.frozen
  obtain ⟨A1, c1, rfl⟩ := o1.form
  have z1 := b1.size
  have HO := Lib.hid o1; clear o1
  go_wp2_with fail
  exact bodyPost_ret (v := .agg #[_, _]) (by simp [results, Tryz.results160, go_sem, ck1]) rfl ⟨_, rfl, ⟨_, rfl, hg, OIts.tloc.go (fun b hb _ _ => by rw [Below.heap_setCell _ _ _ _ (by dsimp only; omega), Below.heap_setCell _ _ _ _ (by dsimp only; omega), Below.heap_setCell _ _ _ _ (by dsimp only; omega)]) (by omega) (by simp only [World.size_setCell]; exact Nat.le_refl _) HO.out⟩,
    (((hbw0.trans (b1.mono hbw0.size)).setCell (by dsimp only; omega) _).setCell (by dsimp only; omega) _).setCell (by dsimp only; omega) _⟩
theorem info_oPack : (Tryz.prog.info? 40).map (fun i => (i.zero, i.size, i.bytes)) = some (some (.agg #[.int .i64 0, .slice none 0 0]), 2, 32) := by kernel_rfl
def NewOPack (w : World) (xs : List Pk) (e : Ending) (w' : World) : Prop := ∃ v, e = .returned v ∧ OPks w' w.heap.size w'.heap.size xs [v] ∧ Below w.heap.size w w'
set_option maxHeartbeats 1000000 in
theorem toPackS_any (xs : List Pk) (v : Value) (w : World) (lo hi : Nat) (h : RPksL w lo hi xs [v]) (hhi : hi ≤ w.heap.size) (hl : bulkS bPk xs ≤ 1048576) :
    Calls Tryz.prog 108 #[v] w (NewOPack w xs) := by
  obtain ⟨A, c, rfl⟩ := h.form
  have hl2 : xs.length ≤ 1048576 := Nat.le_trans bulkS_len hl
  have hmk := make_flat (P := Tryz.prog) 23 40 (.agg #[.int .i64 0, .slice none 0 0]) 2 32 Tryz.underlying23 info_oPack xs.length (by omega) (by omega) w
  go_enter Tryz.func108, Tryz.ntmps108
  go_wp2_with fail
  go_loopw [4] (fun i wr => ∃ k : Nat, k ≤ xs.length ∧ i = .int .i64 k ∧ ORowP 40 OPk 2 (xs.length * 2) wr w.heap.size w.heap.size wr.heap.size (xs.take k) ∧ Below w.heap.size w wr) (fun i _ => xs.length - (intOf i).toNat)
  case atStart =>
    refine ⟨0, Nat.zero_le _, rfl, ?_, (Below.refl _ _).alloc (Nat.le_refl _) _⟩
    have := ORowP.new 40 OPk 2 w (madeCells #[.int .i64 0, .slice none 0 0] (xs.length * 2))
    rw [size_madeCells] at this
    exact this
  case round =>
    obtain ⟨k, hk, rfl, hp, hb⟩ := hrel
    by_cases hlt : k < xs.length
    · obtain ⟨x, hxk⟩ := some_of_lt hlt
      obtain ⟨b, off, es, rfl, _, hbb, _, ⟨v2, rfl, hgd, hr⟩, hcc⟩ := (RPksL.loc.below h hb hhi).at_ hxk
      obtain ⟨A2, c2, rfl⟩ := RSl.form hr
      have hc0 : wr.cell? ⟨b, off + k * 2, none⟩ = some (.int .i64 x.no) := by simpa using hcc 0 _ rfl
      have hc1 : wr.cell? ⟨b, off + k * 2 + 1, none⟩ = some (.slice A2 x.its.length c2) := by simpa using hcc 1 _ rfl
      clear hcc
      have hnext := take_succ hxk
      have HX := Lib.hid hxk; clear hxk
      have HN := Lib.hid hnext; clear hnext
      go_wp2_with fail
      refine (toPack_any x _ _ _ _ hr hgd (Nat.le_trans hhi hb.size) (Nat.le_trans ((bulkS_mem (f := bPk) (List.mem_of_getElem? HX.out))) hl)).mono ?_
      rintro e w1 ⟨v3, rfl, hy, hb1⟩
      obtain ⟨A3, c3, rfl⟩ : ∃ A c, v3 = .slice A x.its.length c := by
        obtain ⟨v4, e4, _, h4⟩ := hy
        cases e4
        exact ORow.form h4
      have hp1 := hp.chg OPk.tloc hb1 (Nat.le_refl _)
      have hlk : (xs.take k).length = k := by rw [List.length_take, Nat.min_eq_left hk]
      obtain ⟨u0, hold0⟩ := hp1.there (j := k * 2) (by omega)
      obtain ⟨u1, hold1⟩ := hp1.there (j := k * 2 + 1) (by omega)
      have hfz0 := hp1.frozen (k * 2)
      have hfz1 := hp1.frozen (k * 2 + 1)
      have hq := hp1.push2 OPk.tloc (by decide) (y := x) (u0 := .int .i64 x.no) (u1 := .slice A3 x.its.length c3) rfl rfl hb1.size hy (by rw [hlk]; omega)
      rw [hlk, ← HN.out] at hq
      have HQ := Lib.hid hq; clear hq
      have HL := Lib.hid hlk; clear hlk
      go_wp2_with fail
      go_roundw
      case rel => exact ⟨k + 1, by omega, by go_num, by simp only [World.size_setCell]; exact HQ.out, ((hb.trans (hb1.mono hb.size)).setCell (Nat.le_refl _) _).setCell (Nat.le_refl _) _⟩
      case measure => simp [intOf]; omega
    · obtain rfl : k = xs.length := by omega
      rw [List.take_length] at hp
      go_wp2_with fail
      go_ret
      exact ⟨_, rfl, hp.own (by unfold maxLen; omega), hb⟩
theorem eqPack_any (x y : Pk) (v1 v2 : Value) (w : World) (lo hi lo2 hi2 : Nat) (h1 : RItsL w lo hi x.its [v1]) (h2 : RItsL w lo2 hi2 y.its [v2]) (hhi : hi ≤ w.heap.size) (hhi2 : hi2 ≤ w.heap.size) (b : Bool) (hb : b = true ↔ x = y) :
    Calls Tryz.prog 163 #[.agg #[.int .i64 x.no, v1], .agg #[.int .i64 y.no, v2]] w fun e w' => e = .returned (.bool b) ∧ Below w.heap.size w w' := by
  have HB := Lib.hid hb; clear hb
  obtain ⟨A, c, rfl⟩ := RSl.form h1
  obtain ⟨A2, c2, rfl⟩ := RSl.form h2
  by_cases e0 : x.no = y.no
  · have t0 : (x.no != y.no) = false := by rw [bne_eq_false_iff_eq]; exact e0
    have E0 := Lib.hid e0; clear e0
    by_cases e1 : x.its = y.its
    · have hbt : b = true := HB.out.2 (by cases x; cases y; simp only [Pk.mk.injEq]; exact ⟨E0.out, e1⟩)
      have HT := Lib.hid hbt; clear hbt
      have E1 := Lib.hid e1; clear e1
      go_enter Tryz.func163, Tryz.ntmps163
      go_wp2_with fail
      have hbw0 : Below w.heap.size w ((w.alloc (.cells #[.int .i64 x.no, .slice A x.its.length c] 40)).alloc (.cells #[.int .i64 y.no, .slice A2 y.its.length c2] 40)) := below_alloc' (below_alloc _ _) _
      have k0 : Blk ((w.alloc (.cells #[.int .i64 x.no, .slice A x.its.length c] 40)).alloc (.cells #[.int .i64 y.no, .slice A2 y.its.length c2] 40)) (w.heap.size) 40 #[.int .i64 x.no, .slice A x.its.length c] := by
        have hk := blk_alloc (Blk.new w 40 #[.int .i64 x.no, .slice A x.its.length c]) (.cells #[.int .i64 y.no, .slice A2 y.its.length c2] 40)
        exact hk
      have k1 : Blk ((w.alloc (.cells #[.int .i64 x.no, .slice A x.its.length c] 40)).alloc (.cells #[.int .i64 y.no, .slice A2 y.its.length c2] 40)) (w.heap.size + 1) 40 #[.int .i64 y.no, .slice A2 y.its.length c2] := by
        have hk := Blk.new (w.alloc (.cells #[.int .i64 x.no, .slice A x.its.length c] 40)) 40 #[.int .i64 y.no, .slice A2 y.its.length c2]
        simp only [World.size_alloc] at hk
        exact hk
      have hsw0 : w.heap.size + 2 ≤ ((w.alloc (.cells #[.int .i64 x.no, .slice A x.its.length c] 40)).alloc (.cells #[.int .i64 y.no, .slice A2 y.its.length c2] 40)).heap.size := by simp only [World.size_alloc]; omega
      generalize ((w.alloc (.cells #[.int .i64 x.no, .slice A x.its.length c] 40)).alloc (.cells #[.int .i64 y.no, .slice A2 y.its.length c2] 40)) = w0 at *
      have ck0 := k0.cell
      have fk0 := k0.frozen
      have ck1 := k1.cell
      have fk1 := k1.frozen
      refine (eqItemS_any x.its y.its _ _ _ lo hi lo2 hi2 (RItsL.loc.below h1 hbw0 hhi) (RItsL.loc.below h2 hbw0 hhi2) (Nat.le_trans hhi hbw0.size) (Nat.le_trans hhi2 hbw0.size) true (by simp only [true_iff]; exact E1.out)).mono ?_
      rintro e w5 ⟨rfl, b5⟩
      go_wp2_with fail
      go_ret
      exact ⟨ret_bool HT.out.symm, below_below hbw0 b5⟩
    · have hbt : b = false := by rw [← Bool.not_eq_true, HB.out]; rintro rfl; exact e1 rfl
      have HT := Lib.hid hbt; clear hbt
      have E1 := Lib.hid e1; clear e1
      go_enter Tryz.func163, Tryz.ntmps163
      go_wp2_with fail
      have hbw0 : Below w.heap.size w ((w.alloc (.cells #[.int .i64 x.no, .slice A x.its.length c] 40)).alloc (.cells #[.int .i64 y.no, .slice A2 y.its.length c2] 40)) := below_alloc' (below_alloc _ _) _
      have k0 : Blk ((w.alloc (.cells #[.int .i64 x.no, .slice A x.its.length c] 40)).alloc (.cells #[.int .i64 y.no, .slice A2 y.its.length c2] 40)) (w.heap.size) 40 #[.int .i64 x.no, .slice A x.its.length c] := by
        have hk := blk_alloc (Blk.new w 40 #[.int .i64 x.no, .slice A x.its.length c]) (.cells #[.int .i64 y.no, .slice A2 y.its.length c2] 40)
        exact hk
      have k1 : Blk ((w.alloc (.cells #[.int .i64 x.no, .slice A x.its.length c] 40)).alloc (.cells #[.int .i64 y.no, .slice A2 y.its.length c2] 40)) (w.heap.size + 1) 40 #[.int .i64 y.no, .slice A2 y.its.length c2] := by
        have hk := Blk.new (w.alloc (.cells #[.int .i64 x.no, .slice A x.its.length c] 40)) 40 #[.int .i64 y.no, .slice A2 y.its.length c2]
        simp only [World.size_alloc] at hk
        exact hk
      have hsw0 : w.heap.size + 2 ≤ ((w.alloc (.cells #[.int .i64 x.no, .slice A x.its.length c] 40)).alloc (.cells #[.int .i64 y.no, .slice A2 y.its.length c2] 40)).heap.size := by simp only [World.size_alloc]; omega
      generalize ((w.alloc (.cells #[.int .i64 x.no, .slice A x.its.length c] 40)).alloc (.cells #[.int .i64 y.no, .slice A2 y.its.length c2] 40)) = w0 at *
      have ck0 := k0.cell
      have fk0 := k0.frozen
      have ck1 := k1.cell
      have fk1 := k1.frozen
      refine (eqItemS_any x.its y.its _ _ _ lo hi lo2 hi2 (RItsL.loc.below h1 hbw0 hhi) (RItsL.loc.below h2 hbw0 hhi2) (Nat.le_trans hhi hbw0.size) (Nat.le_trans hhi2 hbw0.size) false (by simp only [Bool.false_eq_true, false_iff]; exact E1.out)).mono ?_
      rintro e w5 ⟨rfl, b5⟩
      go_wp2_with fail
      go_ret
      exact ⟨ret_bool HT.out.symm, below_below hbw0 b5⟩
  · have t0 : (x.no != y.no) = true := by rw [bne_iff_ne]; exact e0
    have hbf : b = false := by rw [← Bool.not_eq_true, HB.out]; rintro rfl; exact e0 rfl
    have HT := Lib.hid hbf; clear hbf e0
    go_enter Tryz.func163, Tryz.ntmps163
    go_wp2_with fail
    go_ret
    exact ⟨ret_bool HT.out.symm, by repeat (first | exact Below.refl _ _ | refine Below.alloc ?_ (by simp) _)⟩
set_option maxHeartbeats 1000000 in
theorem eqPackS_any (xs ys : List Pk) (v1 v2 : Value) (w : World) (lo hi lo' hi' : Nat) (h1 : RPksL w lo hi xs [v1]) (h2 : RPksL w lo' hi' ys [v2]) (hh1 : hi ≤ w.heap.size) (hh2 : hi' ≤ w.heap.size) (b : Bool) (hb : b = true ↔ xs = ys) :
    Calls Tryz.prog 111 #[v1, v2] w fun e w' => e = .returned (.bool b) ∧ Below w.heap.size w w' := by
  have HB := Lib.hid hb; clear hb
  obtain ⟨A, c, rfl⟩ := h1.form
  obtain ⟨B, d, rfl⟩ := h2.form
  obtain ⟨_, hc, hx⟩ := h1.len_
  unfold maxLen at hx
  by_cases hlen : xs.length = ys.length
  · have t1 : ((xs.length : Int) != ys.length) = false := by rw [bne_eq_false_iff_eq]; omega
    have HL := Lib.hid hlen; clear hlen
    go_enter Tryz.func111, Tryz.ntmps111
    go_wp2_with fail
    go_loopw [5] (fun i wr => ∃ k : Nat, k ≤ xs.length ∧ i = .int .i64 k ∧ xs.take k = ys.take k ∧ Below w.heap.size w wr) (fun i _ => xs.length - (intOf i).toNat)
    case atStart => exact ⟨0, Nat.zero_le _, rfl, rfl, Below.refl _ _⟩
    case round =>
      obtain ⟨k, hk, rfl, he, hbr⟩ := hrel
      have HE := Lib.hid he; clear he
      by_cases hlt : k < xs.length
      · obtain ⟨x, hxk⟩ := some_of_lt hlt
        obtain ⟨y, hyk⟩ := some_of_lt (l := ys) (k := k) (by have := HL.out; omega)
        obtain ⟨b1, off, es, rfl, _, hbb, _, ⟨v2, rfl, hg1, hr1⟩, hcc⟩ := (RPksL.loc.below h1 hbr hh1).at_ hxk
        obtain ⟨A2, c2, rfl⟩ := RSl.form hr1
        have hc0 : wr.cell? ⟨b1, off + k * 2, none⟩ = some (.int .i64 x.no) := by simpa using hcc 0 _ rfl
        have hc1 : wr.cell? ⟨b1, off + k * 2 + 1, none⟩ = some (.slice A2 x.its.length c2) := by simpa using hcc 1 _ rfl
        clear hcc
        obtain ⟨b2, off2, es, rfl, _, hbb, _, ⟨v2, rfl, hg2, hr2⟩, hcc⟩ := (RPksL.loc.below h2 hbr hh2).at_ hyk
        obtain ⟨A3, c3, rfl⟩ := RSl.form hr2
        have hd0 : wr.cell? ⟨b2, off2 + k * 2, none⟩ = some (.int .i64 y.no) := by simpa using hcc 0 _ rfl
        have hd1 : wr.cell? ⟨b2, off2 + k * 2 + 1, none⟩ = some (.slice A3 y.its.length c3) := by simpa using hcc 1 _ rfl
        clear hcc
        have hly : (k : Int) < (ys.length : Int) := by have := HL.out; omega
        have HX := Lib.hid hxk; have HY := Lib.hid hyk
        clear hxk hyk
        have HR1 := Lib.hid hr1; clear hr1
        have HR2 := Lib.hid hr2; clear hr2
        have HSR := Lib.hid hbr.size
        by_cases hxy : x = y
        · have HXY := Lib.hid hxy; clear hxy
          go_wp2_with fail
          have past0 := past_cell hc0
          have past1 := past_cell hc1
          have past2 := past_cell hd0
          have past3 := past_cell hd1
          refine region_past (by kernel_rfl) (by kernel_rfl) ?_
          repeat (go_big_quiet_step (first | (go_at_call 163; refine past_call (eqPack_any x y _ _ _ _ _ _ _ (RItsL.loc.below HR1.out (Past.ok _) (Nat.le_trans hh1 HSR.out)) (RItsL.loc.below HR2.out (Past.ok _) (Nat.le_trans hh2 HSR.out)) (Nat.le_trans hh1 (Nat.le_trans HSR.out (Past.ok _).size)) (Nat.le_trans hh2 (Nat.le_trans HSR.out (Past.ok _).size)) true ?_); (simp only [true_iff]; exact HXY.out))))
          refine wpQuiet_nil ?_
          intro wq hw1
          have hq := past_out hw1
          clear hw1 past0 past1 past2 past3
          go_wp2_with fail
          go_roundw
          case rel => first | exact ⟨k + 1, by omega, by go_num, by rw [take_succ HX.out, take_succ HY.out, HE.out, HXY.out], hbr.trans (hq.mono hbr.size)⟩ | ((repeat apply Exists.intro); refine ⟨?_, rfl⟩; exact ⟨k + 1, by omega, by go_num, by rw [take_succ HX.out, take_succ HY.out, HE.out, HXY.out], hbr.trans (hq.mono hbr.size)⟩)
          case measure => simp [intOf]; omega
        · have hf : b = false := by
            rw [← Bool.not_eq_true, HB.out]
            rintro rfl
            exact hxy (Option.some.inj (HX.out.symm.trans HY.out))
          have HF := Lib.hid hf; clear hf
          have HXY := Lib.hid hxy; clear hxy
          go_wp2_with fail
          have past0 := past_cell hc0
          have past1 := past_cell hc1
          have past2 := past_cell hd0
          have past3 := past_cell hd1
          refine region_past (by kernel_rfl) (by kernel_rfl) ?_
          repeat (go_big_quiet_step (first | (go_at_call 163; refine past_call (eqPack_any x y _ _ _ _ _ _ _ (RItsL.loc.below HR1.out (Past.ok _) (Nat.le_trans hh1 HSR.out)) (RItsL.loc.below HR2.out (Past.ok _) (Nat.le_trans hh2 HSR.out)) (Nat.le_trans hh1 (Nat.le_trans HSR.out (Past.ok _).size)) (Nat.le_trans hh2 (Nat.le_trans HSR.out (Past.ok _).size)) false ?_); (simp only [Bool.false_eq_true, false_iff]; exact HXY.out))))
          refine wpQuiet_nil ?_
          intro wq hw1
          have hq := past_out hw1
          clear hw1 past0 past1 past2 past3
          go_wp2_with fail
          go_ret
          exact ⟨ret_bool HF.out.symm, hbr.trans (hq.mono hbr.size)⟩
      · obtain rfl : k = xs.length := by omega
        have ht : b = true := by
          rw [HB.out]
          have := HE.out
          rwa [List.take_length, List.take_of_length_le (by have := HL.out; omega)] at this
        have HF := Lib.hid ht; clear ht
        go_wp2_with fail
        go_ret
        exact ⟨ret_bool HF.out.symm, hbr⟩
  · have t1 : ((xs.length : Int) != ys.length) = true := by rw [bne_iff_ne]; omega
    have hf : b = false := by
      rw [← Bool.not_eq_true, HB.out]
      rintro rfl
      exact hlen rfl
    have HF := Lib.hid hf; clear hf
    have HL := Lib.hid hlen; clear hlen
    go_enter Tryz.func111, Tryz.ntmps111
    go_wp2_with fail
    go_ret
    exact ⟨ret_bool HF.out.symm, Below.refl _ _⟩
end Go.Proofs.YtpdkgpbfmpekgaaGreatDoor




/- The helpers of the exact laws for rows of ints. -/
namespace Go.Proofs.YtpdkgpbfmpekgaaGreatDoor
open Go.RowKit

theorem toIntS_own (xs : List Int) (v : Value) (w : World) (lo hi : Nat) (h : RSl RInt 1 w lo hi xs [v]) (hhi : hi ≤ w.heap.size) (hl : xs.length ≤ 1048576) :
    Calls Tryz.prog 74 #[v] w (NewFlat FInt 3 w xs) := by
  obtain ⟨A, c, rfl⟩ := h.form
  have hmk := Go.run_make_row' (P := Tryz.prog) 31 3 (.int .i64 0) 8 Tryz.underlying31 info_int rfl .i64 .i64 xs.length (by omega) (by omega) w
  go_enter Tryz.func74, Tryz.ntmps74
  go_wp2_with fail
  go_loopw [4] (fun i wr => ∃ k : Nat, k ≤ xs.length ∧ i = .int .i64 k ∧ Pre wr w.heap.size 3 xs.length ((xs.take k).map (Value.int .i64)) ∧ Below w.heap.size w wr) (fun i _ => xs.length - (intOf i).toNat)
  case atStart =>
    refine ⟨0, Nat.zero_le _, rfl, ?_, (Below.refl _ _).alloc (Nat.le_refl _) _⟩
    have := Pre.new w 3 (madeCells #[.int .i64 0] xs.length)
    rw [size_madeCells] at this
    exact this
  case round =>
    obtain ⟨k, hk, rfl, hp, hb⟩ := hrel
    by_cases hlt : k < xs.length
    · obtain ⟨x, hxk⟩ := some_of_lt hlt
      obtain ⟨b, off, rfl, _, hbb, _, hcell0⟩ := h.ints_at hxk
      have hcell : wr.cell? ⟨b, off + k, none⟩ = some (.int .i64 x) := (hb.cell (p := ⟨b, off + k, none⟩) (by show b < _; omega)).trans hcell0
      obtain ⟨u, hold⟩ := hp.there hlt
      have hfz := hp.frozen k
      have hpush := hp.push (.int .i64 x) (by simp; omega)
      have hlen : ((xs.take k).map (Value.int .i64)).length = k := by simp; omega
      rw [hlen, ← List.map_singleton, ← List.map_append, ← take_succ hxk] at hpush
      have HX := Lib.hid hxk; clear hxk
      have HL := Lib.hid hlen; clear hlen hcell0
      go_wp2_with fail
      go_roundw
      case rel => exact ⟨k + 1, by omega, by go_num, hpush, hb.setCell (Nat.le_refl _) _⟩
      case measure => simp [intOf]; omega
    · obtain rfl : k = xs.length := by omega
      rw [List.take_length, ← flats_int] at hp
      go_wp2_with fail
      go_ret
      exact ⟨_, rfl, Pre.own (F := FInt) (by show Pre _ _ _ (xs.length * 1) _; rw [Nat.mul_one]; exact hp) (Nat.le_refl _) (by unfold maxLen; omega), hb⟩
theorem szIntS_any (m c : Nat) (A : Option Addr) (k : Int) (w : World) (hm : m ≤ 9223372036854775807) (hk : 0 ≤ k) (hk' : k ≤ 1048576) (q : Int) (hq : (k - m < 0 ∧ q = -1) ∨ (0 ≤ k - m ∧ q = k - m)) :
    Calls Tryz.prog 72 #[.slice A m c, .int .i64 k] w fun e w' => e = .returned (.int .i64 q) ∧ w = w' := by
  rcases hq with ⟨h, rfl⟩ | ⟨h, rfl⟩
  · go_enter Tryz.func72, Tryz.ntmps72
    go_wp2_with fail
    go_ret
    exact ⟨rfl, rfl⟩
  · go_enter Tryz.func72, Tryz.ntmps72
    go_wp2_with fail
    go_ret
    exact ⟨rfl, rfl⟩
def NewOInt (w : World) (xs : List Int) (e : Ending) (w' : World) : Prop := ∃ v, e = .returned v ∧ OInts w' w.heap.size w'.heap.size xs [v] ∧ Below w.heap.size w w'
theorem toIntS_o (xs : List Int) (v : Value) (w : World) (lo hi : Nat) (h : RSl RInt 1 w lo hi xs [v]) (hhi : hi ≤ w.heap.size) (hl : xs.length ≤ 1048576) :
    Calls Tryz.prog 74 #[v] w (NewOInt w xs) := by
  refine (toIntS_own xs v w lo hi h hhi hl).mono ?_
  rintro e w1 ⟨v1, rfl, o1, b1⟩
  exact ⟨_, rfl, o1.orow (fun x hx => h.in64 x hx) b1.size fun g hg => (o1.at_ hg).2, b1⟩
end Go.Proofs.YtpdkgpbfmpekgaaGreatDoor




/- The helpers of the exact laws for Listed. -/
namespace Go.Proofs.YtpdkgpbfmpekgaaGreatDoor
open Go.RowKit

theorem szListed_any (x : Ls) (v : Value) (k : Int) (w : World) (lo hi : Nat) (hx : x.p.size ≤ maxLen) (h : RSl RInt 1 w lo hi x.ns [v]) (hhi : hi ≤ w.heap.size) (hk : 0 ≤ k) (hk' : k ≤ 1048576) : Calls Tryz.prog 276 #[.agg #[.string x.p, v], .int .i64 k] w fun e w' => e = .returned (.int .i64 (sub0 k (bLs x))) ∧ Below w.heap.size w w' := by
  obtain ⟨A, c, rfl⟩ := h.form
  obtain ⟨_, hc, hx2⟩ := h.len_
  unfold maxLen at hx hx2
  by_cases h1 : k - (x.p.size : Int) < 0
  · rw [sub0_neg (show k - ((bLs x : Nat) : Int) < 0 by unfold bLs; omega)]
    go_enter Tryz.func276, Tryz.ntmps276
    go_wp2_with fail
    go_ret
    exact ⟨rfl, below_alloc _ _⟩
  · by_cases h2 : k - (x.p.size : Int) - (x.ns.length : Int) < 0
    · rw [sub0_neg (show k - ((bLs x : Nat) : Int) < 0 by unfold bLs; omega)]
      go_enter Tryz.func276, Tryz.ntmps276
      go_wp2_with fail
      refine (szIntS_any x.ns.length c A (k - (x.p.size : Int)) _ (by omega) (by omega) (by omega) (-1) (.inl ⟨by omega, rfl⟩)).mono ?_
      rintro e w1 ⟨rfl, rfl⟩
      go_wp2_with fail
      go_ret
      exact ⟨rfl, below_alloc _ _⟩
    · rw [sub0_pos (show (0 : Int) ≤ k - (bLs x : Int) by unfold bLs; omega)]
      have e : k - ((bLs x : Nat) : Int) = k - (x.p.size : Int) - (x.ns.length : Int) := by unfold bLs; omega
      rw [e]
      have H2 := Lib.hid h2; clear e
      go_enter Tryz.func276, Tryz.ntmps276
      go_wp2_with fail
      refine (szIntS_any x.ns.length c A (k - (x.p.size : Int)) _ (by omega) (by omega) (by omega) _ (.inr ⟨by have := H2.out; omega, rfl⟩)).mono ?_
      rintro e w1 ⟨rfl, rfl⟩
      go_wp2_with fail
      go_ret
      exact ⟨rfl, below_alloc _ _⟩
set_option maxHeartbeats 1000000 in
theorem szListedS_any (xs : List Ls) (v : Value) (k : Int) (w : World) (lo hi : Nat) (h : RLssL w lo hi xs [v]) (hhi : hi ≤ w.heap.size) (hk : 0 ≤ k) (hk' : k ≤ 1048576) :
    Calls Tryz.prog 216 #[v, .int .i64 k] w fun e w' => e = .returned (.int .i64 (sub0 k (bulkS bLs xs))) ∧ Below w.heap.size w w' := by
  obtain ⟨A, c, rfl⟩ := h.form
  obtain ⟨_, hc, hx⟩ := h.len_
  unfold maxLen at hx
  by_cases hbig : k - (xs.length : Int) < 0
  · rw [sub0_neg (show k - ((bulkS bLs xs : Nat) : Int) < 0 by have := bulkS_len (f := bLs) (l := xs); omega)]
    go_enter Tryz.func216, Tryz.ntmps216
    go_wp2_with fail
    go_ret
    exact ⟨rfl, Below.refl _ _⟩
  generalize hq : sub0 k (bulkS bLs xs) = q
  have HQ := Lib.hid hq; clear hq
  go_enter Tryz.func216, Tryz.ntmps216
  go_wp2_with fail
  go_loopw [1, 5] (fun kk ii wr => ∃ j : Nat, j ≤ xs.length ∧ ii = .int .i64 j ∧ kk = .int .i64 (k - (bulkTo bLs xs j : Nat)) ∧ 0 ≤ k - ((bulkTo bLs xs j : Nat) : Int) ∧ Below w.heap.size w wr) (fun _ ii _ => xs.length - (intOf ii).toNat)
  case atStart => exact ⟨0, Nat.zero_le _, rfl, by rw [bulkTo_zero], by rw [bulkTo_zero]; omega, Below.refl _ _⟩
  case round =>
    obtain ⟨j, hj, rfl, rfl, hge, hbr⟩ := hrel
    by_cases hlt : j < xs.length
    · obtain ⟨x, hxk⟩ := some_of_lt hlt
      have hst := bulkTo_step (f := bLs) hxk
      have hle := bulkTo_le (f := bLs) (l := xs) (j := j + 1)
      have HST := Lib.hid hst; clear hst
      have HLE := Lib.hid hle; clear hle
      obtain ⟨b, off, es, rfl, _, hbb, _, ⟨v2, rfl, hgd, hr⟩, hcc⟩ := (RLssL.loc.below h hbr hhi).at_ hxk
      obtain ⟨A2, c2, rfl⟩ := RSl.form hr
      have hc0 : wr.cell? ⟨b, off + j * 2, none⟩ = some (.string x.p) := by simpa using hcc 0 _ rfl
      have hc1 : wr.cell? ⟨b, off + j * 2 + 1, none⟩ = some (.slice A2 x.ns.length c2) := by simpa using hcc 1 _ rfl
      clear hcc
      have HX := Lib.hid hxk; clear hxk
      have hz : ∃ z : Int, z = k - ((bulkTo bLs xs j : Nat) : Int) ∧ 0 ≤ z ∧ z ≤ 1048576 := ⟨_, rfl, hge, by omega⟩
      obtain ⟨z, hz, hz0, hz1⟩ := hz
      rw [← hz]
      have HZ := Lib.hid hz; clear hz hge
      go_wp2_with fail
      refine (szListed_any x _ _ _ _ _ hgd hr (Nat.le_trans hhi hbr.size) hz0 hz1).mono ?_
      rintro e w1 ⟨rfl, hb1⟩
      by_cases hn : z - ((bLs x : Nat) : Int) < 0
      · rw [sub0_neg hn]
        have hq1 : (-1 : Int) = q := by rw [← HQ.out, sub0_neg (show k - ((bulkS bLs xs : Nat) : Int) < 0 by have h1 := HST.out; have h2 := HLE.out; have h3 := HZ.out; omega)]
        have HQ1 := Lib.hid hq1; clear hq1 hn
        go_wp2_with fail
        go_ret
        exact ⟨ret_int HQ1.out, below_below hbr hb1⟩
      · rw [sub0_pos (show 0 ≤ z - ((bLs x : Nat) : Int) by omega)]
        have hy : ∃ y : Int, y = z - ((bLs x : Nat) : Int) ∧ 0 ≤ y := ⟨_, rfl, by omega⟩
        obtain ⟨y, hy, hy0⟩ := hy
        rw [← hy]
        have HY := Lib.hid hy; clear hy hn
        go_wp2_with fail
        go_roundw
        case rel => exact ⟨j + 1, by omega, by go_num, by have h1 := HST.out; have h3 := HZ.out; have h4 := HY.out; exact congrArg (Value.int .i64) (by omega), by have h1 := HST.out; have h3 := HZ.out; have h4 := HY.out; omega, below_below hbr hb1⟩
        case measure => simp [intOf]; omega
    · obtain rfl : j = xs.length := by omega
      rw [bulkTo_all] at hge ⊢
      have hz : ∃ z : Int, z = k - ((bulkS bLs xs : Nat) : Int) ∧ 0 ≤ z ∧ z ≤ 1048576 := ⟨_, rfl, hge, by omega⟩
      obtain ⟨z, hz, hz0, hz1⟩ := hz
      rw [← hz]
      have hq1 : z = q := by rw [← HQ.out, sub0_pos hge]; exact hz
      have HQ1 := Lib.hid hq1
      clear hz hge hq1
      go_wp2_with fail
      go_ret
      exact ⟨ret_int HQ1.out, hbr⟩
set_option maxHeartbeats 1000000 in
theorem toListed_any (x : Ls) (v : Value) (w : World) (lo hi : Nat) (h : RSl RInt 1 w lo hi x.ns [v]) (hg : x.p.size ≤ maxLen) (hhi : hi ≤ w.heap.size) (hl : List.length x.ns ≤ 1048576) :
    Calls Tryz.prog 278 #[.agg #[.string x.p, v]] w fun e w' => ∃ v', e = .returned (.agg #[.string x.p, v']) ∧ OLs w' w.heap.size w'.heap.size x [.string x.p, v'] ∧ Below w.heap.size w w' := by
  obtain ⟨A, c, rfl⟩ := RSl.form h
  go_enter Tryz.func278, Tryz.ntmps278
  go_wp2_with fail
  have hbw0 : Below w.heap.size w (((w.alloc (.cells #[.string x.p, .slice A x.ns.length c] 328)).alloc (.cells #[.string ⟨#[]⟩, .slice none 0 0] 114)).alloc (.cells #[.string x.p, .slice none 0 0] 114)) := below_alloc' (below_alloc' (below_alloc _ _) _) _
  have k0 : Blk (((w.alloc (.cells #[.string x.p, .slice A x.ns.length c] 328)).alloc (.cells #[.string ⟨#[]⟩, .slice none 0 0] 114)).alloc (.cells #[.string x.p, .slice none 0 0] 114)) (w.heap.size) 328 #[.string x.p, .slice A x.ns.length c] := by
    have hk := blk_alloc (blk_alloc (Blk.new w 328 #[.string x.p, .slice A x.ns.length c]) (.cells #[.string ⟨#[]⟩, .slice none 0 0] 114)) (.cells #[.string x.p, .slice none 0 0] 114)
    exact hk
  have k1 : Blk (((w.alloc (.cells #[.string x.p, .slice A x.ns.length c] 328)).alloc (.cells #[.string ⟨#[]⟩, .slice none 0 0] 114)).alloc (.cells #[.string x.p, .slice none 0 0] 114)) (w.heap.size + 1) 114 #[.string ⟨#[]⟩, .slice none 0 0] := by
    have hk := blk_alloc (Blk.new (w.alloc (.cells #[.string x.p, .slice A x.ns.length c] 328)) 114 #[.string ⟨#[]⟩, .slice none 0 0]) (.cells #[.string x.p, .slice none 0 0] 114)
    simp only [World.size_alloc] at hk
    exact hk
  have k2 : Blk (((w.alloc (.cells #[.string x.p, .slice A x.ns.length c] 328)).alloc (.cells #[.string ⟨#[]⟩, .slice none 0 0] 114)).alloc (.cells #[.string x.p, .slice none 0 0] 114)) (w.heap.size + 1 + 1) 114 #[.string x.p, .slice none 0 0] := by
    have hk := Blk.new ((w.alloc (.cells #[.string x.p, .slice A x.ns.length c] 328)).alloc (.cells #[.string ⟨#[]⟩, .slice none 0 0] 114)) 114 #[.string x.p, .slice none 0 0]
    simp only [World.size_alloc] at hk
    exact hk
  have hsw0 : w.heap.size + 3 ≤ (((w.alloc (.cells #[.string x.p, .slice A x.ns.length c] 328)).alloc (.cells #[.string ⟨#[]⟩, .slice none 0 0] 114)).alloc (.cells #[.string x.p, .slice none 0 0] 114)).heap.size := by simp only [World.size_alloc]; omega
  generalize (((w.alloc (.cells #[.string x.p, .slice A x.ns.length c] 328)).alloc (.cells #[.string ⟨#[]⟩, .slice none 0 0] 114)).alloc (.cells #[.string x.p, .slice none 0 0] 114)) = w0 at *
  have ck0 := k0.cell
  have fk0 := k0.frozen
  have ck1 := k1.cell
  have fk1 := k1.frozen
  have ck2 := k2.cell
  have fk2 := k2.frozen
  have hhi0 := Nat.le_trans hhi hbw0.size
  refine (toIntS_o x.ns _ _ _ _ (RIntsL.loc.below h hbw0 hhi) hhi0 hl).mono ?_
  rintro e w1 ⟨v1, rfl, o1, b1⟩
  replace k0 := blk_keep k0 b1
  replace ck0 := k0.cell
  replace fk0 := k0.frozen
  replace k1 := blk_keep k1 b1
  replace ck1 := k1.cell
  replace fk1 := k1.frozen
  replace k2 := blk_keep k2 b1
  replace ck2 := k2.cell
  replace fk2 := k2.frozen
  obtain ⟨A1, c1, rfl⟩ := o1.form
  have z1 := b1.size
  have HO := Lib.hid o1; clear o1
  go_wp2_with fail
  exact bodyPost_ret (v := .agg #[_, _]) (by simp [results, Tryz.results278, go_sem, ck1]) rfl ⟨_, rfl, ⟨_, rfl, hg, OInts.tloc.go (fun b hb _ _ => by rw [Below.heap_setCell _ _ _ _ (by dsimp only; omega), Below.heap_setCell _ _ _ _ (by dsimp only; omega), Below.heap_setCell _ _ _ _ (by dsimp only; omega)]) (by omega) (by simp only [World.size_setCell]; exact Nat.le_refl _) HO.out⟩,
    (((hbw0.trans (b1.mono hbw0.size)).setCell (by dsimp only; omega) _).setCell (by dsimp only; omega) _).setCell (by dsimp only; omega) _⟩
theorem info_oListed : (Tryz.prog.info? 114).map (fun i => (i.zero, i.size, i.bytes)) = some (some (.agg #[.string ⟨#[]⟩, .slice none 0 0]), 2, 40) := by kernel_rfl
def NewOListed (w : World) (xs : List Ls) (e : Ending) (w' : World) : Prop := ∃ v, e = .returned v ∧ OLss w' w.heap.size w'.heap.size xs [v] ∧ Below w.heap.size w w'
set_option maxHeartbeats 1000000 in
theorem toListedS_any (xs : List Ls) (v : Value) (w : World) (lo hi : Nat) (h : RLssL w lo hi xs [v]) (hhi : hi ≤ w.heap.size) (hl : bulkS bLs xs ≤ 1048576) :
    Calls Tryz.prog 218 #[v] w (NewOListed w xs) := by
  obtain ⟨A, c, rfl⟩ := h.form
  have hl2 : xs.length ≤ 1048576 := Nat.le_trans bulkS_len hl
  have hmk := make_flat (P := Tryz.prog) 33 114 (.agg #[.string ⟨#[]⟩, .slice none 0 0]) 2 40 Tryz.underlying33 info_oListed xs.length (by omega) (by omega) w
  go_enter Tryz.func218, Tryz.ntmps218
  go_wp2_with fail
  go_loopw [4] (fun i wr => ∃ k : Nat, k ≤ xs.length ∧ i = .int .i64 k ∧ ORowP 114 OLs 2 (xs.length * 2) wr w.heap.size w.heap.size wr.heap.size (xs.take k) ∧ Below w.heap.size w wr) (fun i _ => xs.length - (intOf i).toNat)
  case atStart =>
    refine ⟨0, Nat.zero_le _, rfl, ?_, (Below.refl _ _).alloc (Nat.le_refl _) _⟩
    have := ORowP.new 114 OLs 2 w (madeCells #[.string ⟨#[]⟩, .slice none 0 0] (xs.length * 2))
    rw [size_madeCells] at this
    exact this
  case round =>
    obtain ⟨k, hk, rfl, hp, hb⟩ := hrel
    by_cases hlt : k < xs.length
    · obtain ⟨x, hxk⟩ := some_of_lt hlt
      obtain ⟨b, off, es, rfl, _, hbb, _, ⟨v2, rfl, hgd, hr⟩, hcc⟩ := (RLssL.loc.below h hb hhi).at_ hxk
      obtain ⟨A2, c2, rfl⟩ := RSl.form hr
      have hc0 : wr.cell? ⟨b, off + k * 2, none⟩ = some (.string x.p) := by simpa using hcc 0 _ rfl
      have hc1 : wr.cell? ⟨b, off + k * 2 + 1, none⟩ = some (.slice A2 x.ns.length c2) := by simpa using hcc 1 _ rfl
      clear hcc
      have hnext := take_succ hxk
      have HX := Lib.hid hxk; clear hxk
      have HN := Lib.hid hnext; clear hnext
      go_wp2_with fail
      refine (toListed_any x _ _ _ _ hr hgd (Nat.le_trans hhi hb.size) (Nat.le_trans (Nat.le_trans (Nat.le_add_left _ _) (bulkS_mem (f := bLs) (List.mem_of_getElem? HX.out))) hl)).mono ?_
      rintro e w1 ⟨v3, rfl, hy, hb1⟩
      obtain ⟨A3, c3, rfl⟩ : ∃ A c, v3 = .slice A x.ns.length c := by
        obtain ⟨v4, e4, _, h4⟩ := hy
        cases e4
        exact ORow.form h4
      have hp1 := hp.chg OLs.tloc hb1 (Nat.le_refl _)
      have hlk : (xs.take k).length = k := by rw [List.length_take, Nat.min_eq_left hk]
      obtain ⟨u0, hold0⟩ := hp1.there (j := k * 2) (by omega)
      obtain ⟨u1, hold1⟩ := hp1.there (j := k * 2 + 1) (by omega)
      have hfz0 := hp1.frozen (k * 2)
      have hfz1 := hp1.frozen (k * 2 + 1)
      have hq := hp1.push2 OLs.tloc (by decide) (y := x) (u0 := .string x.p) (u1 := .slice A3 x.ns.length c3) rfl rfl hb1.size hy (by rw [hlk]; omega)
      rw [hlk, ← HN.out] at hq
      have HQ := Lib.hid hq; clear hq
      have HL := Lib.hid hlk; clear hlk
      go_wp2_with fail
      go_roundw
      case rel => exact ⟨k + 1, by omega, by go_num, by simp only [World.size_setCell]; exact HQ.out, ((hb.trans (hb1.mono hb.size)).setCell (Nat.le_refl _) _).setCell (Nat.le_refl _) _⟩
      case measure => simp [intOf]; omega
    · obtain rfl : k = xs.length := by omega
      rw [List.take_length] at hp
      go_wp2_with fail
      go_ret
      exact ⟨_, rfl, hp.own (by unfold maxLen; omega), hb⟩
theorem eqListed_any (x y : Ls) (v1 v2 : Value) (w : World) (lo hi lo2 hi2 : Nat) (h1 : RSl RInt 1 w lo hi x.ns [v1]) (h2 : RSl RInt 1 w lo2 hi2 y.ns [v2]) (hhi : hi ≤ w.heap.size) (hhi2 : hi2 ≤ w.heap.size) (b : Bool) (hb : b = true ↔ x = y) :
    Calls Tryz.prog 280 #[.agg #[.string x.p, v1], .agg #[.string y.p, v2]] w fun e w' => e = .returned (.bool b) ∧ Below w.heap.size w w' := by
  have HB := Lib.hid hb; clear hb
  obtain ⟨A, c, rfl⟩ := RSl.form h1
  obtain ⟨A2, c2, rfl⟩ := RSl.form h2
  by_cases e0 : x.p = y.p
  · have t0 : (x.p.toList == y.p.toList) = true := by rw [e0, beq_iff_eq]
    have E0 := Lib.hid e0; clear e0
    by_cases e1 : x.ns = y.ns
    · have hbt : b = true := HB.out.2 (by cases x; cases y; simp only [Ls.mk.injEq]; exact ⟨E0.out, e1⟩)
      have HT := Lib.hid hbt; clear hbt
      have E1 := Lib.hid e1; clear e1
      go_enter Tryz.func280, Tryz.ntmps280
      go_wp2_with fail
      have hbw0 : Below w.heap.size w ((w.alloc (.cells #[.string x.p, .slice A x.ns.length c] 114)).alloc (.cells #[.string y.p, .slice A2 y.ns.length c2] 114)) := below_alloc' (below_alloc _ _) _
      have k0 : Blk ((w.alloc (.cells #[.string x.p, .slice A x.ns.length c] 114)).alloc (.cells #[.string y.p, .slice A2 y.ns.length c2] 114)) (w.heap.size) 114 #[.string x.p, .slice A x.ns.length c] := by
        have hk := blk_alloc (Blk.new w 114 #[.string x.p, .slice A x.ns.length c]) (.cells #[.string y.p, .slice A2 y.ns.length c2] 114)
        exact hk
      have k1 : Blk ((w.alloc (.cells #[.string x.p, .slice A x.ns.length c] 114)).alloc (.cells #[.string y.p, .slice A2 y.ns.length c2] 114)) (w.heap.size + 1) 114 #[.string y.p, .slice A2 y.ns.length c2] := by
        have hk := Blk.new (w.alloc (.cells #[.string x.p, .slice A x.ns.length c] 114)) 114 #[.string y.p, .slice A2 y.ns.length c2]
        simp only [World.size_alloc] at hk
        exact hk
      have hsw0 : w.heap.size + 2 ≤ ((w.alloc (.cells #[.string x.p, .slice A x.ns.length c] 114)).alloc (.cells #[.string y.p, .slice A2 y.ns.length c2] 114)).heap.size := by simp only [World.size_alloc]; omega
      generalize ((w.alloc (.cells #[.string x.p, .slice A x.ns.length c] 114)).alloc (.cells #[.string y.p, .slice A2 y.ns.length c2] 114)) = w0 at *
      have ck0 := k0.cell
      have fk0 := k0.frozen
      have ck1 := k1.cell
      have fk1 := k1.frozen
      refine (eqIntS_any x.ns y.ns _ _ _ lo hi lo2 hi2 (RIntsL.loc.below h1 hbw0 hhi) (RIntsL.loc.below h2 hbw0 hhi2)).mono ?_
      rintro e w5 ⟨rfl, nn, rfl⟩
      rw [decide_eq_true E1.out]
      have b5 := below_drewN (Below.refl w0.heap.size w0) nn
      go_wp2_with fail
      go_ret
      exact ⟨ret_bool HT.out.symm, below_below hbw0 b5⟩
    · have hbt : b = false := by rw [← Bool.not_eq_true, HB.out]; rintro rfl; exact e1 rfl
      have HT := Lib.hid hbt; clear hbt
      have E1 := Lib.hid e1; clear e1
      go_enter Tryz.func280, Tryz.ntmps280
      go_wp2_with fail
      have hbw0 : Below w.heap.size w ((w.alloc (.cells #[.string x.p, .slice A x.ns.length c] 114)).alloc (.cells #[.string y.p, .slice A2 y.ns.length c2] 114)) := below_alloc' (below_alloc _ _) _
      have k0 : Blk ((w.alloc (.cells #[.string x.p, .slice A x.ns.length c] 114)).alloc (.cells #[.string y.p, .slice A2 y.ns.length c2] 114)) (w.heap.size) 114 #[.string x.p, .slice A x.ns.length c] := by
        have hk := blk_alloc (Blk.new w 114 #[.string x.p, .slice A x.ns.length c]) (.cells #[.string y.p, .slice A2 y.ns.length c2] 114)
        exact hk
      have k1 : Blk ((w.alloc (.cells #[.string x.p, .slice A x.ns.length c] 114)).alloc (.cells #[.string y.p, .slice A2 y.ns.length c2] 114)) (w.heap.size + 1) 114 #[.string y.p, .slice A2 y.ns.length c2] := by
        have hk := Blk.new (w.alloc (.cells #[.string x.p, .slice A x.ns.length c] 114)) 114 #[.string y.p, .slice A2 y.ns.length c2]
        simp only [World.size_alloc] at hk
        exact hk
      have hsw0 : w.heap.size + 2 ≤ ((w.alloc (.cells #[.string x.p, .slice A x.ns.length c] 114)).alloc (.cells #[.string y.p, .slice A2 y.ns.length c2] 114)).heap.size := by simp only [World.size_alloc]; omega
      generalize ((w.alloc (.cells #[.string x.p, .slice A x.ns.length c] 114)).alloc (.cells #[.string y.p, .slice A2 y.ns.length c2] 114)) = w0 at *
      have ck0 := k0.cell
      have fk0 := k0.frozen
      have ck1 := k1.cell
      have fk1 := k1.frozen
      refine (eqIntS_any x.ns y.ns _ _ _ lo hi lo2 hi2 (RIntsL.loc.below h1 hbw0 hhi) (RIntsL.loc.below h2 hbw0 hhi2)).mono ?_
      rintro e w5 ⟨rfl, nn, rfl⟩
      rw [decide_eq_false E1.out]
      have b5 := below_drewN (Below.refl w0.heap.size w0) nn
      go_wp2_with fail
      go_ret
      exact ⟨ret_bool HT.out.symm, below_below hbw0 b5⟩
  · have t0 : (x.p.toList == y.p.toList) = false := str_ne e0
    have hbf : b = false := by rw [← Bool.not_eq_true, HB.out]; rintro rfl; exact e0 rfl
    have HT := Lib.hid hbf; clear hbf e0
    go_enter Tryz.func280, Tryz.ntmps280
    go_wp2_with fail
    go_ret
    exact ⟨ret_bool HT.out.symm, by repeat (first | exact Below.refl _ _ | refine Below.alloc ?_ (by simp) _)⟩
set_option maxHeartbeats 1000000 in
theorem eqListedS_any (xs ys : List Ls) (v1 v2 : Value) (w : World) (lo hi lo' hi' : Nat) (h1 : RLssL w lo hi xs [v1]) (h2 : RLssL w lo' hi' ys [v2]) (hh1 : hi ≤ w.heap.size) (hh2 : hi' ≤ w.heap.size) (b : Bool) (hb : b = true ↔ xs = ys) :
    Calls Tryz.prog 220 #[v1, v2] w fun e w' => e = .returned (.bool b) ∧ Below w.heap.size w w' := by
  have HB := Lib.hid hb; clear hb
  obtain ⟨A, c, rfl⟩ := h1.form
  obtain ⟨B, d, rfl⟩ := h2.form
  obtain ⟨_, hc, hx⟩ := h1.len_
  unfold maxLen at hx
  by_cases hlen : xs.length = ys.length
  · have t1 : ((xs.length : Int) != ys.length) = false := by rw [bne_eq_false_iff_eq]; omega
    have HL := Lib.hid hlen; clear hlen
    go_enter Tryz.func220, Tryz.ntmps220
    go_wp2_with fail
    go_loopw [5] (fun i wr => ∃ k : Nat, k ≤ xs.length ∧ i = .int .i64 k ∧ xs.take k = ys.take k ∧ Below w.heap.size w wr) (fun i _ => xs.length - (intOf i).toNat)
    case atStart => exact ⟨0, Nat.zero_le _, rfl, rfl, Below.refl _ _⟩
    case round =>
      obtain ⟨k, hk, rfl, he, hbr⟩ := hrel
      have HE := Lib.hid he; clear he
      by_cases hlt : k < xs.length
      · obtain ⟨x, hxk⟩ := some_of_lt hlt
        obtain ⟨y, hyk⟩ := some_of_lt (l := ys) (k := k) (by have := HL.out; omega)
        obtain ⟨b1, off, es, rfl, _, hbb, _, ⟨v2, rfl, hg1, hr1⟩, hcc⟩ := (RLssL.loc.below h1 hbr hh1).at_ hxk
        obtain ⟨A2, c2, rfl⟩ := RSl.form hr1
        have hc0 : wr.cell? ⟨b1, off + k * 2, none⟩ = some (.string x.p) := by simpa using hcc 0 _ rfl
        have hc1 : wr.cell? ⟨b1, off + k * 2 + 1, none⟩ = some (.slice A2 x.ns.length c2) := by simpa using hcc 1 _ rfl
        clear hcc
        obtain ⟨b2, off2, es, rfl, _, hbb, _, ⟨v2, rfl, hg2, hr2⟩, hcc⟩ := (RLssL.loc.below h2 hbr hh2).at_ hyk
        obtain ⟨A3, c3, rfl⟩ := RSl.form hr2
        have hd0 : wr.cell? ⟨b2, off2 + k * 2, none⟩ = some (.string y.p) := by simpa using hcc 0 _ rfl
        have hd1 : wr.cell? ⟨b2, off2 + k * 2 + 1, none⟩ = some (.slice A3 y.ns.length c3) := by simpa using hcc 1 _ rfl
        clear hcc
        have hly : (k : Int) < (ys.length : Int) := by have := HL.out; omega
        have HX := Lib.hid hxk; have HY := Lib.hid hyk
        clear hxk hyk
        have HR1 := Lib.hid hr1; clear hr1
        have HR2 := Lib.hid hr2; clear hr2
        have HSR := Lib.hid hbr.size
        by_cases hxy : x = y
        · have HXY := Lib.hid hxy; clear hxy
          go_wp2_with fail
          have past0 := past_cell hc0
          have past1 := past_cell hc1
          have past2 := past_cell hd0
          have past3 := past_cell hd1
          refine region_past (by kernel_rfl) (by kernel_rfl) ?_
          repeat (go_big_quiet_step (first | (go_at_call 280; refine past_call (eqListed_any x y _ _ _ _ _ _ _ (RIntsL.loc.below HR1.out (Past.ok _) (Nat.le_trans hh1 HSR.out)) (RIntsL.loc.below HR2.out (Past.ok _) (Nat.le_trans hh2 HSR.out)) (Nat.le_trans hh1 (Nat.le_trans HSR.out (Past.ok _).size)) (Nat.le_trans hh2 (Nat.le_trans HSR.out (Past.ok _).size)) true ?_); (simp only [true_iff]; exact HXY.out))))
          refine wpQuiet_nil ?_
          intro wq hw1
          have hq := past_out hw1
          clear hw1 past0 past1 past2 past3
          go_wp2_with fail
          go_roundw
          case rel => first | exact ⟨k + 1, by omega, by go_num, by rw [take_succ HX.out, take_succ HY.out, HE.out, HXY.out], hbr.trans (hq.mono hbr.size)⟩ | ((repeat apply Exists.intro); refine ⟨?_, rfl⟩; exact ⟨k + 1, by omega, by go_num, by rw [take_succ HX.out, take_succ HY.out, HE.out, HXY.out], hbr.trans (hq.mono hbr.size)⟩)
          case measure => simp [intOf]; omega
        · have hf : b = false := by
            rw [← Bool.not_eq_true, HB.out]
            rintro rfl
            exact hxy (Option.some.inj (HX.out.symm.trans HY.out))
          have HF := Lib.hid hf; clear hf
          have HXY := Lib.hid hxy; clear hxy
          go_wp2_with fail
          have past0 := past_cell hc0
          have past1 := past_cell hc1
          have past2 := past_cell hd0
          have past3 := past_cell hd1
          refine region_past (by kernel_rfl) (by kernel_rfl) ?_
          repeat (go_big_quiet_step (first | (go_at_call 280; refine past_call (eqListed_any x y _ _ _ _ _ _ _ (RIntsL.loc.below HR1.out (Past.ok _) (Nat.le_trans hh1 HSR.out)) (RIntsL.loc.below HR2.out (Past.ok _) (Nat.le_trans hh2 HSR.out)) (Nat.le_trans hh1 (Nat.le_trans HSR.out (Past.ok _).size)) (Nat.le_trans hh2 (Nat.le_trans HSR.out (Past.ok _).size)) false ?_); (simp only [Bool.false_eq_true, false_iff]; exact HXY.out))))
          refine wpQuiet_nil ?_
          intro wq hw1
          have hq := past_out hw1
          clear hw1 past0 past1 past2 past3
          go_wp2_with fail
          go_ret
          exact ⟨ret_bool HF.out.symm, hbr.trans (hq.mono hbr.size)⟩
      · obtain rfl : k = xs.length := by omega
        have ht : b = true := by
          rw [HB.out]
          have := HE.out
          rwa [List.take_length, List.take_of_length_le (by have := HL.out; omega)] at this
        have HF := Lib.hid ht; clear ht
        go_wp2_with fail
        go_ret
        exact ⟨ret_bool HF.out.symm, hbr⟩
  · have t1 : ((xs.length : Int) != ys.length) = true := by rw [bne_iff_ne]; omega
    have hf : b = false := by
      rw [← Bool.not_eq_true, HB.out]
      rintro rfl
      exact hlen rfl
    have HF := Lib.hid hf; clear hf
    have HL := Lib.hid hlen; clear hlen
    go_enter Tryz.func220, Tryz.ntmps220
    go_wp2_with fail
    go_ret
    exact ⟨ret_bool HF.out.symm, Below.refl _ _⟩
end Go.Proofs.YtpdkgpbfmpekgaaGreatDoor




/- The helpers of the exact laws for Snap. -/
namespace Go.Proofs.YtpdkgpbfmpekgaaGreatDoor
open Go.RowKit

theorem szSnap_any (x : Sn) (v : Value) (k : Int) (w : World) (lo hi : Nat) (h : RLssL w lo hi x.all [v]) (hhi : hi ≤ w.heap.size) (hk : 0 ≤ k) (hk' : k ≤ 1048576) : Calls Tryz.prog 159 #[.agg #[.int .i64 x.no, v], .int .i64 k] w fun e w' => e = .returned (.int .i64 (sub0 k (bSn x))) ∧ Below w.heap.size w w' := by
  obtain ⟨A, c, rfl⟩ := RSl.form h
  show Calls _ _ _ _ fun e w' => e = .returned (.int .i64 (sub0 k (bulkS bLs x.all))) ∧ _
  by_cases h1 : k - ((bulkS bLs x.all : Nat) : Int) < 0
  · rw [sub0_neg h1]
    have hq := sub0_neg h1
    have HQ := Lib.hid hq; clear hq h1
    go_enter Tryz.func159, Tryz.ntmps159
    go_wp2_with fail
    have ba := below_alloc w (.cells #[.int .i64 x.no, .slice A x.all.length c] 214)
    refine (szListedS_any x.all _ k _ lo hi (RLssL.loc.below h ba hhi) (Nat.le_trans hhi ba.size) hk hk').mono ?_
    rintro e w1 ⟨rfl, b1⟩
    rw [HQ.out]
    go_wp2_with fail
    go_ret
    exact ⟨rfl, below_below ba b1⟩
  · have hq := sub0_pos (k := k) (b := bulkS bLs x.all) (by omega)
    have hz : ∃ z : Int, sub0 k (bulkS bLs x.all) = z ∧ 0 ≤ z ∧ z ≤ 1048576 := ⟨_, rfl, by omega, by omega⟩
    obtain ⟨z, hz, hz0, hz1⟩ := hz
    rw [hz]
    have HQ := Lib.hid hz; clear hq h1 hz
    go_enter Tryz.func159, Tryz.ntmps159
    go_wp2_with fail
    have ba := below_alloc w (.cells #[.int .i64 x.no, .slice A x.all.length c] 214)
    refine (szListedS_any x.all _ k _ lo hi (RLssL.loc.below h ba hhi) (Nat.le_trans hhi ba.size) hk hk').mono ?_
    rintro e w1 ⟨rfl, b1⟩
    rw [HQ.out]
    go_wp2_with fail
    go_ret
    exact ⟨rfl, below_below ba b1⟩
set_option maxHeartbeats 1000000 in
theorem szSnapS_any (xs : List Sn) (v : Value) (k : Int) (w : World) (lo hi : Nat) (h : RSnsL w lo hi xs [v]) (hhi : hi ≤ w.heap.size) (hk : 0 ≤ k) (hk' : k ≤ 1048576) :
    Calls Tryz.prog 106 #[v, .int .i64 k] w fun e w' => e = .returned (.int .i64 (sub0 k (bulkS bSn xs))) ∧ Below w.heap.size w w' := by
  obtain ⟨A, c, rfl⟩ := h.form
  obtain ⟨_, hc, hx⟩ := h.len_
  unfold maxLen at hx
  by_cases hbig : k - (xs.length : Int) < 0
  · rw [sub0_neg (show k - ((bulkS bSn xs : Nat) : Int) < 0 by have := bulkS_len (f := bSn) (l := xs); omega)]
    go_enter Tryz.func106, Tryz.ntmps106
    go_wp2_with fail
    go_ret
    exact ⟨rfl, Below.refl _ _⟩
  generalize hq : sub0 k (bulkS bSn xs) = q
  have HQ := Lib.hid hq; clear hq
  go_enter Tryz.func106, Tryz.ntmps106
  go_wp2_with fail
  go_loopw [1, 5] (fun kk ii wr => ∃ j : Nat, j ≤ xs.length ∧ ii = .int .i64 j ∧ kk = .int .i64 (k - (bulkTo bSn xs j : Nat)) ∧ 0 ≤ k - ((bulkTo bSn xs j : Nat) : Int) ∧ Below w.heap.size w wr) (fun _ ii _ => xs.length - (intOf ii).toNat)
  case atStart => exact ⟨0, Nat.zero_le _, rfl, by rw [bulkTo_zero], by rw [bulkTo_zero]; omega, Below.refl _ _⟩
  case round =>
    obtain ⟨j, hj, rfl, rfl, hge, hbr⟩ := hrel
    by_cases hlt : j < xs.length
    · obtain ⟨x, hxk⟩ := some_of_lt hlt
      have hst := bulkTo_step (f := bSn) hxk
      have hle := bulkTo_le (f := bSn) (l := xs) (j := j + 1)
      have HST := Lib.hid hst; clear hst
      have HLE := Lib.hid hle; clear hle
      obtain ⟨b, off, es, rfl, _, hbb, _, ⟨v2, rfl, hgd, hr⟩, hcc⟩ := (RSnsL.loc.below h hbr hhi).at_ hxk
      obtain ⟨A2, c2, rfl⟩ := RSl.form hr
      have hc0 : wr.cell? ⟨b, off + j * 2, none⟩ = some (.int .i64 x.no) := by simpa using hcc 0 _ rfl
      have hc1 : wr.cell? ⟨b, off + j * 2 + 1, none⟩ = some (.slice A2 x.all.length c2) := by simpa using hcc 1 _ rfl
      clear hcc
      have HX := Lib.hid hxk; clear hxk
      have hz : ∃ z : Int, z = k - ((bulkTo bSn xs j : Nat) : Int) ∧ 0 ≤ z ∧ z ≤ 1048576 := ⟨_, rfl, hge, by omega⟩
      obtain ⟨z, hz, hz0, hz1⟩ := hz
      rw [← hz]
      have HZ := Lib.hid hz; clear hz hge
      go_wp2_with fail
      refine (szSnap_any x _ _ _ _ _ hr (Nat.le_trans hhi hbr.size) hz0 hz1).mono ?_
      rintro e w1 ⟨rfl, hb1⟩
      by_cases hn : z - ((bSn x : Nat) : Int) < 0
      · rw [sub0_neg hn]
        have hq1 : (-1 : Int) = q := by rw [← HQ.out, sub0_neg (show k - ((bulkS bSn xs : Nat) : Int) < 0 by have h1 := HST.out; have h2 := HLE.out; have h3 := HZ.out; omega)]
        have HQ1 := Lib.hid hq1; clear hq1 hn
        go_wp2_with fail
        go_ret
        exact ⟨ret_int HQ1.out, below_below hbr hb1⟩
      · rw [sub0_pos (show 0 ≤ z - ((bSn x : Nat) : Int) by omega)]
        have hy : ∃ y : Int, y = z - ((bSn x : Nat) : Int) ∧ 0 ≤ y := ⟨_, rfl, by omega⟩
        obtain ⟨y, hy, hy0⟩ := hy
        rw [← hy]
        have HY := Lib.hid hy; clear hy hn
        go_wp2_with fail
        go_roundw
        case rel => exact ⟨j + 1, by omega, by go_num, by have h1 := HST.out; have h3 := HZ.out; have h4 := HY.out; exact congrArg (Value.int .i64) (by omega), by have h1 := HST.out; have h3 := HZ.out; have h4 := HY.out; omega, below_below hbr hb1⟩
        case measure => simp [intOf]; omega
    · obtain rfl : j = xs.length := by omega
      rw [bulkTo_all] at hge ⊢
      have hz : ∃ z : Int, z = k - ((bulkS bSn xs : Nat) : Int) ∧ 0 ≤ z ∧ z ≤ 1048576 := ⟨_, rfl, hge, by omega⟩
      obtain ⟨z, hz, hz0, hz1⟩ := hz
      rw [← hz]
      have hq1 : z = q := by rw [← HQ.out, sub0_pos hge]; exact hz
      have HQ1 := Lib.hid hq1
      clear hz hge hq1
      go_wp2_with fail
      go_ret
      exact ⟨ret_int HQ1.out, hbr⟩
set_option maxHeartbeats 1000000 in
theorem toSnap_any (x : Sn) (v : Value) (w : World) (lo hi : Nat) (h : RLssL w lo hi x.all [v]) (hg : In64 x.no) (hhi : hi ≤ w.heap.size) (hl : bulkS bLs x.all ≤ 1048576) :
    Calls Tryz.prog 161 #[.agg #[.int .i64 x.no, v]] w fun e w' => ∃ v', e = .returned (.agg #[.int .i64 x.no, v']) ∧ OSn w' w.heap.size w'.heap.size x [.int .i64 x.no, v'] ∧ Below w.heap.size w w' := by
  obtain ⟨A, c, rfl⟩ := RSl.form h
  go_enter Tryz.func161, Tryz.ntmps161
  go_wp2_with fail
  have hbw0 : Below w.heap.size w (((w.alloc (.cells #[.int .i64 x.no, .slice A x.all.length c] 214)).alloc (.cells #[.int .i64 0, .slice none 0 0] 35)).alloc (.cells #[.int .i64 x.no, .slice none 0 0] 35)) := below_alloc' (below_alloc' (below_alloc _ _) _) _
  have k0 : Blk (((w.alloc (.cells #[.int .i64 x.no, .slice A x.all.length c] 214)).alloc (.cells #[.int .i64 0, .slice none 0 0] 35)).alloc (.cells #[.int .i64 x.no, .slice none 0 0] 35)) (w.heap.size) 214 #[.int .i64 x.no, .slice A x.all.length c] := by
    have hk := blk_alloc (blk_alloc (Blk.new w 214 #[.int .i64 x.no, .slice A x.all.length c]) (.cells #[.int .i64 0, .slice none 0 0] 35)) (.cells #[.int .i64 x.no, .slice none 0 0] 35)
    exact hk
  have k1 : Blk (((w.alloc (.cells #[.int .i64 x.no, .slice A x.all.length c] 214)).alloc (.cells #[.int .i64 0, .slice none 0 0] 35)).alloc (.cells #[.int .i64 x.no, .slice none 0 0] 35)) (w.heap.size + 1) 35 #[.int .i64 0, .slice none 0 0] := by
    have hk := blk_alloc (Blk.new (w.alloc (.cells #[.int .i64 x.no, .slice A x.all.length c] 214)) 35 #[.int .i64 0, .slice none 0 0]) (.cells #[.int .i64 x.no, .slice none 0 0] 35)
    simp only [World.size_alloc] at hk
    exact hk
  have k2 : Blk (((w.alloc (.cells #[.int .i64 x.no, .slice A x.all.length c] 214)).alloc (.cells #[.int .i64 0, .slice none 0 0] 35)).alloc (.cells #[.int .i64 x.no, .slice none 0 0] 35)) (w.heap.size + 1 + 1) 35 #[.int .i64 x.no, .slice none 0 0] := by
    have hk := Blk.new ((w.alloc (.cells #[.int .i64 x.no, .slice A x.all.length c] 214)).alloc (.cells #[.int .i64 0, .slice none 0 0] 35)) 35 #[.int .i64 x.no, .slice none 0 0]
    simp only [World.size_alloc] at hk
    exact hk
  have hsw0 : w.heap.size + 3 ≤ (((w.alloc (.cells #[.int .i64 x.no, .slice A x.all.length c] 214)).alloc (.cells #[.int .i64 0, .slice none 0 0] 35)).alloc (.cells #[.int .i64 x.no, .slice none 0 0] 35)).heap.size := by simp only [World.size_alloc]; omega
  generalize (((w.alloc (.cells #[.int .i64 x.no, .slice A x.all.length c] 214)).alloc (.cells #[.int .i64 0, .slice none 0 0] 35)).alloc (.cells #[.int .i64 x.no, .slice none 0 0] 35)) = w0 at *
  have ck0 := k0.cell
  have fk0 := k0.frozen
  have ck1 := k1.cell
  have fk1 := k1.frozen
  have ck2 := k2.cell
  have fk2 := k2.frozen
  have hhi0 := Nat.le_trans hhi hbw0.size
  refine (toListedS_any x.all _ _ _ _ (RLssL.loc.below h hbw0 hhi) hhi0 hl).mono ?_
  rintro e w1 ⟨v1, rfl, o1, b1⟩
  replace k0 := blk_keep k0 b1
  replace ck0 := k0.cell
  replace fk0 := k0.frozen
  replace k1 := blk_keep k1 b1
  replace ck1 := k1.cell
  replace fk1 := k1.frozen
  replace k2 := blk_keep k2 b1
  replace ck2 := k2.cell
  replace fk2 := k2.frozen
  obtain ⟨A1, c1, rfl⟩ := o1.form
  have z1 := b1.size
  have HO := Lib.hid o1; clear o1
  go_wp2_with fail
  exact bodyPost_ret (v := .agg #[_, _]) (by simp [results, Tryz.results161, go_sem, ck1]) rfl ⟨_, rfl, ⟨_, rfl, hg, OLss.tloc.go (fun b hb _ _ => by rw [Below.heap_setCell _ _ _ _ (by dsimp only; omega), Below.heap_setCell _ _ _ _ (by dsimp only; omega), Below.heap_setCell _ _ _ _ (by dsimp only; omega)]) (by omega) (by simp only [World.size_setCell]; exact Nat.le_refl _) HO.out⟩,
    (((hbw0.trans (b1.mono hbw0.size)).setCell (by dsimp only; omega) _).setCell (by dsimp only; omega) _).setCell (by dsimp only; omega) _⟩
theorem info_oSnap : (Tryz.prog.info? 35).map (fun i => (i.zero, i.size, i.bytes)) = some (some (.agg #[.int .i64 0, .slice none 0 0]), 2, 32) := by kernel_rfl
def NewOSnap (w : World) (xs : List Sn) (e : Ending) (w' : World) : Prop := ∃ v, e = .returned v ∧ OSns w' w.heap.size w'.heap.size xs [v] ∧ Below w.heap.size w w'
set_option maxHeartbeats 1000000 in
theorem toSnapS_any (xs : List Sn) (v : Value) (w : World) (lo hi : Nat) (h : RSnsL w lo hi xs [v]) (hhi : hi ≤ w.heap.size) (hl : bulkS bSn xs ≤ 1048576) :
    Calls Tryz.prog 109 #[v] w (NewOSnap w xs) := by
  obtain ⟨A, c, rfl⟩ := h.form
  have hl2 : xs.length ≤ 1048576 := Nat.le_trans bulkS_len hl
  have hmk := make_flat (P := Tryz.prog) 24 35 (.agg #[.int .i64 0, .slice none 0 0]) 2 32 Tryz.underlying24 info_oSnap xs.length (by omega) (by omega) w
  go_enter Tryz.func109, Tryz.ntmps109
  go_wp2_with fail
  go_loopw [4] (fun i wr => ∃ k : Nat, k ≤ xs.length ∧ i = .int .i64 k ∧ ORowP 35 OSn 2 (xs.length * 2) wr w.heap.size w.heap.size wr.heap.size (xs.take k) ∧ Below w.heap.size w wr) (fun i _ => xs.length - (intOf i).toNat)
  case atStart =>
    refine ⟨0, Nat.zero_le _, rfl, ?_, (Below.refl _ _).alloc (Nat.le_refl _) _⟩
    have := ORowP.new 35 OSn 2 w (madeCells #[.int .i64 0, .slice none 0 0] (xs.length * 2))
    rw [size_madeCells] at this
    exact this
  case round =>
    obtain ⟨k, hk, rfl, hp, hb⟩ := hrel
    by_cases hlt : k < xs.length
    · obtain ⟨x, hxk⟩ := some_of_lt hlt
      obtain ⟨b, off, es, rfl, _, hbb, _, ⟨v2, rfl, hgd, hr⟩, hcc⟩ := (RSnsL.loc.below h hb hhi).at_ hxk
      obtain ⟨A2, c2, rfl⟩ := RSl.form hr
      have hc0 : wr.cell? ⟨b, off + k * 2, none⟩ = some (.int .i64 x.no) := by simpa using hcc 0 _ rfl
      have hc1 : wr.cell? ⟨b, off + k * 2 + 1, none⟩ = some (.slice A2 x.all.length c2) := by simpa using hcc 1 _ rfl
      clear hcc
      have hnext := take_succ hxk
      have HX := Lib.hid hxk; clear hxk
      have HN := Lib.hid hnext; clear hnext
      go_wp2_with fail
      refine (toSnap_any x _ _ _ _ hr hgd (Nat.le_trans hhi hb.size) (Nat.le_trans ((bulkS_mem (f := bSn) (List.mem_of_getElem? HX.out))) hl)).mono ?_
      rintro e w1 ⟨v3, rfl, hy, hb1⟩
      obtain ⟨A3, c3, rfl⟩ : ∃ A c, v3 = .slice A x.all.length c := by
        obtain ⟨v4, e4, _, h4⟩ := hy
        cases e4
        exact ORow.form h4
      have hp1 := hp.chg OSn.tloc hb1 (Nat.le_refl _)
      have hlk : (xs.take k).length = k := by rw [List.length_take, Nat.min_eq_left hk]
      obtain ⟨u0, hold0⟩ := hp1.there (j := k * 2) (by omega)
      obtain ⟨u1, hold1⟩ := hp1.there (j := k * 2 + 1) (by omega)
      have hfz0 := hp1.frozen (k * 2)
      have hfz1 := hp1.frozen (k * 2 + 1)
      have hq := hp1.push2 OSn.tloc (by decide) (y := x) (u0 := .int .i64 x.no) (u1 := .slice A3 x.all.length c3) rfl rfl hb1.size hy (by rw [hlk]; omega)
      rw [hlk, ← HN.out] at hq
      have HQ := Lib.hid hq; clear hq
      have HL := Lib.hid hlk; clear hlk
      go_wp2_with fail
      go_roundw
      case rel => exact ⟨k + 1, by omega, by go_num, by simp only [World.size_setCell]; exact HQ.out, ((hb.trans (hb1.mono hb.size)).setCell (Nat.le_refl _) _).setCell (Nat.le_refl _) _⟩
      case measure => simp [intOf]; omega
    · obtain rfl : k = xs.length := by omega
      rw [List.take_length] at hp
      go_wp2_with fail
      go_ret
      exact ⟨_, rfl, hp.own (by unfold maxLen; omega), hb⟩
theorem eqSnap_any (x y : Sn) (v1 v2 : Value) (w : World) (lo hi lo2 hi2 : Nat) (h1 : RLssL w lo hi x.all [v1]) (h2 : RLssL w lo2 hi2 y.all [v2]) (hhi : hi ≤ w.heap.size) (hhi2 : hi2 ≤ w.heap.size) (b : Bool) (hb : b = true ↔ x = y) :
    Calls Tryz.prog 164 #[.agg #[.int .i64 x.no, v1], .agg #[.int .i64 y.no, v2]] w fun e w' => e = .returned (.bool b) ∧ Below w.heap.size w w' := by
  have HB := Lib.hid hb; clear hb
  obtain ⟨A, c, rfl⟩ := RSl.form h1
  obtain ⟨A2, c2, rfl⟩ := RSl.form h2
  by_cases e0 : x.no = y.no
  · have t0 : (x.no != y.no) = false := by rw [bne_eq_false_iff_eq]; exact e0
    have E0 := Lib.hid e0; clear e0
    by_cases e1 : x.all = y.all
    · have hbt : b = true := HB.out.2 (by cases x; cases y; simp only [Sn.mk.injEq]; exact ⟨E0.out, e1⟩)
      have HT := Lib.hid hbt; clear hbt
      have E1 := Lib.hid e1; clear e1
      go_enter Tryz.func164, Tryz.ntmps164
      go_wp2_with fail
      have hbw0 : Below w.heap.size w ((w.alloc (.cells #[.int .i64 x.no, .slice A x.all.length c] 35)).alloc (.cells #[.int .i64 y.no, .slice A2 y.all.length c2] 35)) := below_alloc' (below_alloc _ _) _
      have k0 : Blk ((w.alloc (.cells #[.int .i64 x.no, .slice A x.all.length c] 35)).alloc (.cells #[.int .i64 y.no, .slice A2 y.all.length c2] 35)) (w.heap.size) 35 #[.int .i64 x.no, .slice A x.all.length c] := by
        have hk := blk_alloc (Blk.new w 35 #[.int .i64 x.no, .slice A x.all.length c]) (.cells #[.int .i64 y.no, .slice A2 y.all.length c2] 35)
        exact hk
      have k1 : Blk ((w.alloc (.cells #[.int .i64 x.no, .slice A x.all.length c] 35)).alloc (.cells #[.int .i64 y.no, .slice A2 y.all.length c2] 35)) (w.heap.size + 1) 35 #[.int .i64 y.no, .slice A2 y.all.length c2] := by
        have hk := Blk.new (w.alloc (.cells #[.int .i64 x.no, .slice A x.all.length c] 35)) 35 #[.int .i64 y.no, .slice A2 y.all.length c2]
        simp only [World.size_alloc] at hk
        exact hk
      have hsw0 : w.heap.size + 2 ≤ ((w.alloc (.cells #[.int .i64 x.no, .slice A x.all.length c] 35)).alloc (.cells #[.int .i64 y.no, .slice A2 y.all.length c2] 35)).heap.size := by simp only [World.size_alloc]; omega
      generalize ((w.alloc (.cells #[.int .i64 x.no, .slice A x.all.length c] 35)).alloc (.cells #[.int .i64 y.no, .slice A2 y.all.length c2] 35)) = w0 at *
      have ck0 := k0.cell
      have fk0 := k0.frozen
      have ck1 := k1.cell
      have fk1 := k1.frozen
      refine (eqListedS_any x.all y.all _ _ _ lo hi lo2 hi2 (RLssL.loc.below h1 hbw0 hhi) (RLssL.loc.below h2 hbw0 hhi2) (Nat.le_trans hhi hbw0.size) (Nat.le_trans hhi2 hbw0.size) true (by simp only [true_iff]; exact E1.out)).mono ?_
      rintro e w5 ⟨rfl, b5⟩
      go_wp2_with fail
      go_ret
      exact ⟨ret_bool HT.out.symm, below_below hbw0 b5⟩
    · have hbt : b = false := by rw [← Bool.not_eq_true, HB.out]; rintro rfl; exact e1 rfl
      have HT := Lib.hid hbt; clear hbt
      have E1 := Lib.hid e1; clear e1
      go_enter Tryz.func164, Tryz.ntmps164
      go_wp2_with fail
      have hbw0 : Below w.heap.size w ((w.alloc (.cells #[.int .i64 x.no, .slice A x.all.length c] 35)).alloc (.cells #[.int .i64 y.no, .slice A2 y.all.length c2] 35)) := below_alloc' (below_alloc _ _) _
      have k0 : Blk ((w.alloc (.cells #[.int .i64 x.no, .slice A x.all.length c] 35)).alloc (.cells #[.int .i64 y.no, .slice A2 y.all.length c2] 35)) (w.heap.size) 35 #[.int .i64 x.no, .slice A x.all.length c] := by
        have hk := blk_alloc (Blk.new w 35 #[.int .i64 x.no, .slice A x.all.length c]) (.cells #[.int .i64 y.no, .slice A2 y.all.length c2] 35)
        exact hk
      have k1 : Blk ((w.alloc (.cells #[.int .i64 x.no, .slice A x.all.length c] 35)).alloc (.cells #[.int .i64 y.no, .slice A2 y.all.length c2] 35)) (w.heap.size + 1) 35 #[.int .i64 y.no, .slice A2 y.all.length c2] := by
        have hk := Blk.new (w.alloc (.cells #[.int .i64 x.no, .slice A x.all.length c] 35)) 35 #[.int .i64 y.no, .slice A2 y.all.length c2]
        simp only [World.size_alloc] at hk
        exact hk
      have hsw0 : w.heap.size + 2 ≤ ((w.alloc (.cells #[.int .i64 x.no, .slice A x.all.length c] 35)).alloc (.cells #[.int .i64 y.no, .slice A2 y.all.length c2] 35)).heap.size := by simp only [World.size_alloc]; omega
      generalize ((w.alloc (.cells #[.int .i64 x.no, .slice A x.all.length c] 35)).alloc (.cells #[.int .i64 y.no, .slice A2 y.all.length c2] 35)) = w0 at *
      have ck0 := k0.cell
      have fk0 := k0.frozen
      have ck1 := k1.cell
      have fk1 := k1.frozen
      refine (eqListedS_any x.all y.all _ _ _ lo hi lo2 hi2 (RLssL.loc.below h1 hbw0 hhi) (RLssL.loc.below h2 hbw0 hhi2) (Nat.le_trans hhi hbw0.size) (Nat.le_trans hhi2 hbw0.size) false (by simp only [Bool.false_eq_true, false_iff]; exact E1.out)).mono ?_
      rintro e w5 ⟨rfl, b5⟩
      go_wp2_with fail
      go_ret
      exact ⟨ret_bool HT.out.symm, below_below hbw0 b5⟩
  · have t0 : (x.no != y.no) = true := by rw [bne_iff_ne]; exact e0
    have hbf : b = false := by rw [← Bool.not_eq_true, HB.out]; rintro rfl; exact e0 rfl
    have HT := Lib.hid hbf; clear hbf e0
    go_enter Tryz.func164, Tryz.ntmps164
    go_wp2_with fail
    go_ret
    exact ⟨ret_bool HT.out.symm, by repeat (first | exact Below.refl _ _ | refine Below.alloc ?_ (by simp) _)⟩
set_option maxHeartbeats 1000000 in
theorem eqSnapS_any (xs ys : List Sn) (v1 v2 : Value) (w : World) (lo hi lo' hi' : Nat) (h1 : RSnsL w lo hi xs [v1]) (h2 : RSnsL w lo' hi' ys [v2]) (hh1 : hi ≤ w.heap.size) (hh2 : hi' ≤ w.heap.size) (b : Bool) (hb : b = true ↔ xs = ys) :
    Calls Tryz.prog 112 #[v1, v2] w fun e w' => e = .returned (.bool b) ∧ Below w.heap.size w w' := by
  have HB := Lib.hid hb; clear hb
  obtain ⟨A, c, rfl⟩ := h1.form
  obtain ⟨B, d, rfl⟩ := h2.form
  obtain ⟨_, hc, hx⟩ := h1.len_
  unfold maxLen at hx
  by_cases hlen : xs.length = ys.length
  · have t1 : ((xs.length : Int) != ys.length) = false := by rw [bne_eq_false_iff_eq]; omega
    have HL := Lib.hid hlen; clear hlen
    go_enter Tryz.func112, Tryz.ntmps112
    go_wp2_with fail
    go_loopw [5] (fun i wr => ∃ k : Nat, k ≤ xs.length ∧ i = .int .i64 k ∧ xs.take k = ys.take k ∧ Below w.heap.size w wr) (fun i _ => xs.length - (intOf i).toNat)
    case atStart => exact ⟨0, Nat.zero_le _, rfl, rfl, Below.refl _ _⟩
    case round =>
      obtain ⟨k, hk, rfl, he, hbr⟩ := hrel
      have HE := Lib.hid he; clear he
      by_cases hlt : k < xs.length
      · obtain ⟨x, hxk⟩ := some_of_lt hlt
        obtain ⟨y, hyk⟩ := some_of_lt (l := ys) (k := k) (by have := HL.out; omega)
        obtain ⟨b1, off, es, rfl, _, hbb, _, ⟨v2, rfl, hg1, hr1⟩, hcc⟩ := (RSnsL.loc.below h1 hbr hh1).at_ hxk
        obtain ⟨A2, c2, rfl⟩ := RSl.form hr1
        have hc0 : wr.cell? ⟨b1, off + k * 2, none⟩ = some (.int .i64 x.no) := by simpa using hcc 0 _ rfl
        have hc1 : wr.cell? ⟨b1, off + k * 2 + 1, none⟩ = some (.slice A2 x.all.length c2) := by simpa using hcc 1 _ rfl
        clear hcc
        obtain ⟨b2, off2, es, rfl, _, hbb, _, ⟨v2, rfl, hg2, hr2⟩, hcc⟩ := (RSnsL.loc.below h2 hbr hh2).at_ hyk
        obtain ⟨A3, c3, rfl⟩ := RSl.form hr2
        have hd0 : wr.cell? ⟨b2, off2 + k * 2, none⟩ = some (.int .i64 y.no) := by simpa using hcc 0 _ rfl
        have hd1 : wr.cell? ⟨b2, off2 + k * 2 + 1, none⟩ = some (.slice A3 y.all.length c3) := by simpa using hcc 1 _ rfl
        clear hcc
        have hly : (k : Int) < (ys.length : Int) := by have := HL.out; omega
        have HX := Lib.hid hxk; have HY := Lib.hid hyk
        clear hxk hyk
        have HR1 := Lib.hid hr1; clear hr1
        have HR2 := Lib.hid hr2; clear hr2
        have HSR := Lib.hid hbr.size
        by_cases hxy : x = y
        · have HXY := Lib.hid hxy; clear hxy
          go_wp2_with fail
          have past0 := past_cell hc0
          have past1 := past_cell hc1
          have past2 := past_cell hd0
          have past3 := past_cell hd1
          refine region_past (by kernel_rfl) (by kernel_rfl) ?_
          repeat (go_big_quiet_step (first | (go_at_call 164; refine past_call (eqSnap_any x y _ _ _ _ _ _ _ (RLssL.loc.below HR1.out (Past.ok _) (Nat.le_trans hh1 HSR.out)) (RLssL.loc.below HR2.out (Past.ok _) (Nat.le_trans hh2 HSR.out)) (Nat.le_trans hh1 (Nat.le_trans HSR.out (Past.ok _).size)) (Nat.le_trans hh2 (Nat.le_trans HSR.out (Past.ok _).size)) true ?_); (simp only [true_iff]; exact HXY.out))))
          refine wpQuiet_nil ?_
          intro wq hw1
          have hq := past_out hw1
          clear hw1 past0 past1 past2 past3
          go_wp2_with fail
          go_roundw
          case rel => first | exact ⟨k + 1, by omega, by go_num, by rw [take_succ HX.out, take_succ HY.out, HE.out, HXY.out], hbr.trans (hq.mono hbr.size)⟩ | ((repeat apply Exists.intro); refine ⟨?_, rfl⟩; exact ⟨k + 1, by omega, by go_num, by rw [take_succ HX.out, take_succ HY.out, HE.out, HXY.out], hbr.trans (hq.mono hbr.size)⟩)
          case measure => simp [intOf]; omega
        · have hf : b = false := by
            rw [← Bool.not_eq_true, HB.out]
            rintro rfl
            exact hxy (Option.some.inj (HX.out.symm.trans HY.out))
          have HF := Lib.hid hf; clear hf
          have HXY := Lib.hid hxy; clear hxy
          go_wp2_with fail
          have past0 := past_cell hc0
          have past1 := past_cell hc1
          have past2 := past_cell hd0
          have past3 := past_cell hd1
          refine region_past (by kernel_rfl) (by kernel_rfl) ?_
          repeat (go_big_quiet_step (first | (go_at_call 164; refine past_call (eqSnap_any x y _ _ _ _ _ _ _ (RLssL.loc.below HR1.out (Past.ok _) (Nat.le_trans hh1 HSR.out)) (RLssL.loc.below HR2.out (Past.ok _) (Nat.le_trans hh2 HSR.out)) (Nat.le_trans hh1 (Nat.le_trans HSR.out (Past.ok _).size)) (Nat.le_trans hh2 (Nat.le_trans HSR.out (Past.ok _).size)) false ?_); (simp only [Bool.false_eq_true, false_iff]; exact HXY.out))))
          refine wpQuiet_nil ?_
          intro wq hw1
          have hq := past_out hw1
          clear hw1 past0 past1 past2 past3
          go_wp2_with fail
          go_ret
          exact ⟨ret_bool HF.out.symm, hbr.trans (hq.mono hbr.size)⟩
      · obtain rfl : k = xs.length := by omega
        have ht : b = true := by
          rw [HB.out]
          have := HE.out
          rwa [List.take_length, List.take_of_length_le (by have := HL.out; omega)] at this
        have HF := Lib.hid ht; clear ht
        go_wp2_with fail
        go_ret
        exact ⟨ret_bool HF.out.symm, hbr⟩
  · have t1 : ((xs.length : Int) != ys.length) = true := by rw [bne_iff_ne]; omega
    have hf : b = false := by
      rw [← Bool.not_eq_true, HB.out]
      rintro rfl
      exact hlen rfl
    have HF := Lib.hid hf; clear hf
    have HL := Lib.hid hlen; clear hlen
    go_enter Tryz.func112, Tryz.ntmps112
    go_wp2_with fail
    go_ret
    exact ⟨ret_bool HF.out.symm, Below.refl _ _⟩
end Go.Proofs.YtpdkgpbfmpekgaaGreatDoor




/- The helpers of the exact laws for Head. -/
namespace Go.Proofs.YtpdkgpbfmpekgaaGreatDoor
open Go.RowKit

theorem szHeadS_any (m c : Nat) (A : Option Addr) (k : Int) (w : World) (hm : m ≤ 9223372036854775807) (hk : 0 ≤ k) (hk' : k ≤ 1048576) :
    Calls Tryz.prog 107 #[.slice A m c, .int .i64 k] w fun e w' => e = .returned (.int .i64 (sub0 k m)) ∧ w = w' := by
  by_cases h : k - (m : Int) < 0
  · rw [sub0_neg h]
    go_enter Tryz.func107, Tryz.ntmps107
    go_wp2_with fail
    go_ret
    exact ⟨rfl, rfl⟩
  · rw [sub0_pos (show 0 ≤ k - (m : Int) by omega)]
    go_enter Tryz.func107, Tryz.ntmps107
    go_wp2_with fail
    go_ret
    exact ⟨rfl, rfl⟩
theorem toHead_any (x : Hd) (w : World) : Calls Tryz.prog 162 #[.agg #[.int .i64 x.b, .int .i64 x.s]] w fun e w' => e = .returned (.agg #[.int .i64 x.b, .int .i64 x.s]) ∧ Below w.heap.size w w' := by
  go_enter Tryz.func162, Tryz.ntmps162
  go_wp2_with fail
  exact bodyPost_ret (v := .agg #[.int .i64 x.b, .int .i64 x.s]) (by simp [results, Tryz.results162, go_sem]) rfl ⟨rfl, by repeat (first | exact Below.refl _ _ | refine Below.setCell ?_ (by first | (simp; done) | (simp; omega)) _ | refine Below.alloc ?_ (by first | (simp; done) | (simp; omega)) _)⟩
theorem info_oHead : (Tryz.prog.info? 76).map (fun i => (i.zero, i.size, i.bytes)) = some (some (.agg #[.int .i64 0, .int .i64 0]), 2, 16) := by kernel_rfl
def NewOHead (w : World) (xs : List Hd) (e : Ending) (w' : World) : Prop := ∃ v, e = .returned v ∧ OHds w' w.heap.size w'.heap.size xs [v] ∧ Below w.heap.size w w'
set_option maxHeartbeats 1000000 in
theorem toHeadS_any (xs : List Hd) (v : Value) (w : World) (lo hi : Nat) (h : RHdsL w lo hi xs [v]) (hhi : hi ≤ w.heap.size) (hl : xs.length ≤ 1048576) :
    Calls Tryz.prog 110 #[v] w (NewOHead w xs) := by
  obtain ⟨A, c, rfl⟩ := h.form
  have hl2 : xs.length ≤ 1048576 := hl
  have hmk := make_flat (P := Tryz.prog) 25 76 (.agg #[.int .i64 0, .int .i64 0]) 2 16 Tryz.underlying25 info_oHead xs.length (by omega) (by omega) w
  go_enter Tryz.func110, Tryz.ntmps110
  go_wp2_with fail
  go_loopw [4] (fun i wr => ∃ k : Nat, k ≤ xs.length ∧ i = .int .i64 k ∧ ORowP 76 (RFlat FHd) 2 (xs.length * 2) wr w.heap.size w.heap.size wr.heap.size (xs.take k) ∧ Below w.heap.size w wr) (fun i _ => xs.length - (intOf i).toNat)
  case atStart =>
    refine ⟨0, Nat.zero_le _, rfl, ?_, (Below.refl _ _).alloc (Nat.le_refl _) _⟩
    have := ORowP.new 76 (RFlat FHd) 2 w (madeCells #[.int .i64 0, .int .i64 0] (xs.length * 2))
    rw [size_madeCells] at this
    exact this
  case round =>
    obtain ⟨k, hk, rfl, hp, hb⟩ := hrel
    by_cases hlt : k < xs.length
    · obtain ⟨x, hxk⟩ := some_of_lt hlt
      obtain ⟨b, off, es, rfl, _, hbb, _, ⟨rfl, hgd⟩, hcc⟩ := (RHdsL.loc.below h hb hhi).at_ hxk
      have hc0 : wr.cell? ⟨b, off + k * 2, none⟩ = some (.int .i64 x.b) := by simpa using hcc 0 _ rfl
      have hc1 : wr.cell? ⟨b, off + k * 2 + 1, none⟩ = some (.int .i64 x.s) := by simpa using hcc 1 _ rfl
      clear hcc
      have hnext := take_succ hxk
      have HX := Lib.hid hxk; clear hxk
      have HN := Lib.hid hnext; clear hnext
      go_wp2_with fail
      refine (toHead_any x _).mono ?_
      rintro e w1 ⟨rfl, hb1⟩
      have hy : (RFlat FHd) w1 wr.heap.size w1.heap.size x [.int .i64 x.b, .int .i64 x.s] := ⟨rfl, hgd⟩
      have hp1 := hp.chg (RFlat.tloc FHd) hb1 (Nat.le_refl _)
      have hlk : (xs.take k).length = k := by rw [List.length_take, Nat.min_eq_left hk]
      obtain ⟨u0, hold0⟩ := hp1.there (j := k * 2) (by omega)
      obtain ⟨u1, hold1⟩ := hp1.there (j := k * 2 + 1) (by omega)
      have hfz0 := hp1.frozen (k * 2)
      have hfz1 := hp1.frozen (k * 2 + 1)
      have hq := hp1.push2 (RFlat.tloc FHd) (by decide) (y := x) (u0 := .int .i64 x.b) (u1 := .int .i64 x.s) rfl rfl hb1.size hy (by rw [hlk]; omega)
      rw [hlk, ← HN.out] at hq
      have HQ := Lib.hid hq; clear hq
      have HL := Lib.hid hlk; clear hlk
      go_wp2_with fail
      go_roundw
      case rel => exact ⟨k + 1, by omega, by go_num, by simp only [World.size_setCell]; exact HQ.out, ((hb.trans (hb1.mono hb.size)).setCell (Nat.le_refl _) _).setCell (Nat.le_refl _) _⟩
      case measure => simp [intOf]; omega
    · obtain rfl : k = xs.length := by omega
      rw [List.take_length] at hp
      go_wp2_with fail
      go_ret
      exact ⟨_, rfl, hp.own (by unfold maxLen; omega), hb⟩
theorem eqHead_any (x y : Hd) (w : World) (b : Bool) (hb : b = true ↔ x = y) : Calls Tryz.prog 165 #[.agg #[.int .i64 x.b, .int .i64 x.s], .agg #[.int .i64 y.b, .int .i64 y.s]] w fun e w' => e = .returned (.bool b) ∧ Below w.heap.size w w' := by
  have HB := Lib.hid hb; clear hb
  by_cases e0 : x.b = y.b
  · have t0 : (x.b != y.b) = false := by rw [bne_eq_false_iff_eq]; exact e0
    have E0 := Lib.hid e0; clear e0
    by_cases e1 : x.s = y.s
    · have t1 : (x.s != y.s) = false := by rw [bne_eq_false_iff_eq]; exact e1
      have E1 := Lib.hid e1; clear e1
      have hbt : b = true := HB.out.2 (by cases x; cases y; simp only [Hd.mk.injEq]; exact ⟨E0.out, E1.out⟩)
      have HT := Lib.hid hbt; clear hbt
      go_enter Tryz.func165, Tryz.ntmps165
      go_wp2_with fail
      go_ret
      exact ⟨ret_bool HT.out.symm, by repeat (first | exact Below.refl _ _ | refine Below.alloc ?_ (by simp) _)⟩
    · have t1 : (x.s != y.s) = true := by rw [bne_iff_ne]; exact e1
      have hbf : b = false := by rw [← Bool.not_eq_true, HB.out]; rintro rfl; exact e1 rfl
      have HT := Lib.hid hbf; clear hbf e1
      go_enter Tryz.func165, Tryz.ntmps165
      go_wp2_with fail
      go_ret
      exact ⟨ret_bool HT.out.symm, by repeat (first | exact Below.refl _ _ | refine Below.alloc ?_ (by simp) _)⟩
  · have t0 : (x.b != y.b) = true := by rw [bne_iff_ne]; exact e0
    have hbf : b = false := by rw [← Bool.not_eq_true, HB.out]; rintro rfl; exact e0 rfl
    have HT := Lib.hid hbf; clear hbf e0
    go_enter Tryz.func165, Tryz.ntmps165
    go_wp2_with fail
    go_ret
    exact ⟨ret_bool HT.out.symm, by repeat (first | exact Below.refl _ _ | refine Below.alloc ?_ (by simp) _)⟩
set_option maxHeartbeats 1000000 in
theorem eqHeadS_any (xs ys : List Hd) (v1 v2 : Value) (w : World) (lo hi lo' hi' : Nat) (h1 : RHdsL w lo hi xs [v1]) (h2 : RHdsL w lo' hi' ys [v2]) (hh1 : hi ≤ w.heap.size) (hh2 : hi' ≤ w.heap.size) (b : Bool) (hb : b = true ↔ xs = ys) :
    Calls Tryz.prog 113 #[v1, v2] w fun e w' => e = .returned (.bool b) ∧ Below w.heap.size w w' := by
  have HB := Lib.hid hb; clear hb
  obtain ⟨A, c, rfl⟩ := h1.form
  obtain ⟨B, d, rfl⟩ := h2.form
  obtain ⟨_, hc, hx⟩ := h1.len_
  unfold maxLen at hx
  by_cases hlen : xs.length = ys.length
  · have t1 : ((xs.length : Int) != ys.length) = false := by rw [bne_eq_false_iff_eq]; omega
    have HL := Lib.hid hlen; clear hlen
    go_enter Tryz.func113, Tryz.ntmps113
    go_wp2_with fail
    go_loopw [5] (fun i wr => ∃ k : Nat, k ≤ xs.length ∧ i = .int .i64 k ∧ xs.take k = ys.take k ∧ Below w.heap.size w wr) (fun i _ => xs.length - (intOf i).toNat)
    case atStart => exact ⟨0, Nat.zero_le _, rfl, rfl, Below.refl _ _⟩
    case round =>
      obtain ⟨k, hk, rfl, he, hbr⟩ := hrel
      have HE := Lib.hid he; clear he
      by_cases hlt : k < xs.length
      · obtain ⟨x, hxk⟩ := some_of_lt hlt
        obtain ⟨y, hyk⟩ := some_of_lt (l := ys) (k := k) (by have := HL.out; omega)
        obtain ⟨b1, off, es, rfl, _, hbb, _, ⟨rfl, hg1⟩, hcc⟩ := (RHdsL.loc.below h1 hbr hh1).at_ hxk
        have hc0 : wr.cell? ⟨b1, off + k * 2, none⟩ = some (.int .i64 x.b) := by simpa using hcc 0 _ rfl
        have hc1 : wr.cell? ⟨b1, off + k * 2 + 1, none⟩ = some (.int .i64 x.s) := by simpa using hcc 1 _ rfl
        clear hcc
        obtain ⟨b2, off2, es, rfl, _, hbb, _, ⟨rfl, hg2⟩, hcc⟩ := (RHdsL.loc.below h2 hbr hh2).at_ hyk
        have hd0 : wr.cell? ⟨b2, off2 + k * 2, none⟩ = some (.int .i64 y.b) := by simpa using hcc 0 _ rfl
        have hd1 : wr.cell? ⟨b2, off2 + k * 2 + 1, none⟩ = some (.int .i64 y.s) := by simpa using hcc 1 _ rfl
        clear hcc
        have hly : (k : Int) < (ys.length : Int) := by have := HL.out; omega
        have HX := Lib.hid hxk; have HY := Lib.hid hyk
        clear hxk hyk
        by_cases hxy : x = y
        · have HXY := Lib.hid hxy; clear hxy
          go_wp2_with fail
          have past0 := past_cell hc0
          have past1 := past_cell hc1
          have past2 := past_cell hd0
          have past3 := past_cell hd1
          refine region_past (by kernel_rfl) (by kernel_rfl) ?_
          repeat (go_big_quiet_step (first | (go_at_call 165; refine past_call (eqHead_any x y _ true ?_); (simp only [true_iff]; exact HXY.out))))
          refine wpQuiet_nil ?_
          intro wq hw1
          have hq := past_out hw1
          clear hw1 past0 past1 past2 past3
          go_wp2_with fail
          go_roundw
          case rel => first | exact ⟨k + 1, by omega, by go_num, by rw [take_succ HX.out, take_succ HY.out, HE.out, HXY.out], hbr.trans (hq.mono hbr.size)⟩ | ((repeat apply Exists.intro); refine ⟨?_, rfl⟩; exact ⟨k + 1, by omega, by go_num, by rw [take_succ HX.out, take_succ HY.out, HE.out, HXY.out], hbr.trans (hq.mono hbr.size)⟩)
          case measure => simp [intOf]; omega
        · have hf : b = false := by
            rw [← Bool.not_eq_true, HB.out]
            rintro rfl
            exact hxy (Option.some.inj (HX.out.symm.trans HY.out))
          have HF := Lib.hid hf; clear hf
          have HXY := Lib.hid hxy; clear hxy
          go_wp2_with fail
          have past0 := past_cell hc0
          have past1 := past_cell hc1
          have past2 := past_cell hd0
          have past3 := past_cell hd1
          refine region_past (by kernel_rfl) (by kernel_rfl) ?_
          repeat (go_big_quiet_step (first | (go_at_call 165; refine past_call (eqHead_any x y _ false ?_); (simp only [Bool.false_eq_true, false_iff]; exact HXY.out))))
          refine wpQuiet_nil ?_
          intro wq hw1
          have hq := past_out hw1
          clear hw1 past0 past1 past2 past3
          go_wp2_with fail
          go_ret
          exact ⟨ret_bool HF.out.symm, hbr.trans (hq.mono hbr.size)⟩
      · obtain rfl : k = xs.length := by omega
        have ht : b = true := by
          rw [HB.out]
          have := HE.out
          rwa [List.take_length, List.take_of_length_le (by have := HL.out; omega)] at this
        have HF := Lib.hid ht; clear ht
        go_wp2_with fail
        go_ret
        exact ⟨ret_bool HF.out.symm, hbr⟩
  · have t1 : ((xs.length : Int) != ys.length) = true := by rw [bne_iff_ne]; omega
    have hf : b = false := by
      rw [← Bool.not_eq_true, HB.out]
      rintro rfl
      exact hlen rfl
    have HF := Lib.hid hf; clear hf
    have HL := Lib.hid hlen; clear hlen
    go_enter Tryz.func113, Tryz.ntmps113
    go_wp2_with fail
    go_ret
    exact ⟨ret_bool HF.out.symm, Below.refl _ _⟩
end Go.Proofs.YtpdkgpbfmpekgaaGreatDoor




/- The helpers of the exact laws for stores: size, copy, sameness. -/
namespace Go.Proofs.YtpdkgpbfmpekgaaGreatDoor
open Go.RowKit

/-- A store, read. -/
structure RStoL (w : World) (lo hi : Nat) (s : Sto) (va vb vc : Value) : Prop where
  pk : RPksL w lo hi s.pk [va]
  sn : RSnsL w lo hi s.sn [vb]
  lg : RHdsL w lo hi s.lg [vc]
theorem RStoL.below {w w' : World} {lo hi B : Nat} {s : Sto} {va vb vc : Value} (h : RStoL w lo hi s va vb vc) (hb : Below B w w') (hB : hi ≤ B) : RStoL w' lo hi s va vb vc := ⟨RPksL.loc.below h.pk hb hB, RSnsL.loc.below h.sn hb hB, RHdsL.loc.below h.lg hb hB⟩
theorem RStoL.wide {w : World} {lo hi lo' hi' : Nat} {s : Sto} {va vb vc : Value} (h : RStoL w lo hi s va vb vc) (h1 : lo' ≤ lo) (h2 : hi ≤ hi') : RStoL w lo' hi' s va vb vc := ⟨RPksL.loc.wide h.pk h1 h2, RSnsL.loc.wide h.sn h1 h2, RHdsL.loc.wide h.lg h1 h2⟩
/-- A store that is owned: the three rows lie in blocks of different types. -/
structure OSto (w : World) (lo hi : Nat) (s : Sto) (va vb vc : Value) : Prop where
  pk : OPks w lo hi s.pk [va]
  sn : OSns w lo hi s.sn [vb]
  lg : OHds w lo hi s.lg [vc]
theorem OSto.go {w w' : World} {lo hi lo' hi' : Nat} {s : Sto} {va vb vc : Value} (h : OSto w lo hi s va vb vc) (hs : ∀ b, lo ≤ b → b < hi → w'.heap[b]? = w.heap[b]?) (h1 : lo' ≤ lo) (h2 : hi ≤ hi') : OSto w' lo' hi' s va vb vc :=
  ⟨OPks.tloc.loc.go hs h1 h2 h.pk, OSns.tloc.loc.go hs h1 h2 h.sn, OHds.tloc.loc.go hs h1 h2 h.lg⟩
theorem OSto.below {w w' : World} {lo hi B : Nat} {s : Sto} {va vb vc : Value} (h : OSto w lo hi s va vb vc) (hb : Below B w w') (hB : hi ≤ B) : OSto w' lo hi s va vb vc := h.go (fun b _ h2 => hb.block b (by omega)) (Nat.le_refl _) (Nat.le_refl _)
theorem OSto.l {w : World} {lo hi : Nat} {s : Sto} {va vb vc : Value} (h : OSto w lo hi s va vb vc) : RStoL w lo hi s va vb vc := ⟨OPks.l h.pk, OSns.l h.sn, OHds.l h.lg⟩
def bSto (s : Sto) : Nat := bulkS bPk s.pk + bulkS bSn s.sn + s.lg.length

theorem szStore_any (s : Sto) (va vb vc : Value) (k : Int) (w : World) (lo hi : Nat) (h : RStoL w lo hi s va vb vc) (hhi : hi ≤ w.heap.size) (hk : 0 ≤ k) (hk' : k ≤ 1048576) :
    Calls Tryz.prog 52 #[.agg #[va, vb, vc], .int .i64 k] w fun e w' => e = .returned (.int .i64 (sub0 k (bSto s))) ∧ Below w.heap.size w w' := by
  obtain ⟨h1, h2, h3⟩ := h
  obtain ⟨A, a, rfl⟩ := RSl.form h1
  obtain ⟨B, b, rfl⟩ := RSl.form h2
  obtain ⟨C, c, rfl⟩ := RSl.form h3
  obtain ⟨_, hc, hx⟩ := h3.len_
  unfold maxLen at hx
  generalize hq : sub0 k (bSto s) = q
  unfold bSto at hq
  by_cases e1 : k - ((bulkS bPk s.pk : Nat) : Int) < 0
  · have hs1 := sub0_neg e1
    have hq1 : (-1 : Int) = q := by rw [← hq, sub0_neg (by omega)]
    have HQ := Lib.hid hq1; have HS := Lib.hid hs1
    clear hq hq1 hs1 e1
    go_enter Tryz.func52, Tryz.ntmps52
    go_wp2_with fail
    have hbw0 : Below w.heap.size w (w.alloc (.cells #[.slice A s.pk.length a, .slice B s.sn.length b, .slice C s.lg.length c] 46)) := below_alloc _ _
    have k0 : Blk (w.alloc (.cells #[.slice A s.pk.length a, .slice B s.sn.length b, .slice C s.lg.length c] 46)) (w.heap.size) 46 #[.slice A s.pk.length a, .slice B s.sn.length b, .slice C s.lg.length c] := by
      have hk := Blk.new w 46 #[.slice A s.pk.length a, .slice B s.sn.length b, .slice C s.lg.length c]
      exact hk
    have hsw0 : w.heap.size + 1 ≤ (w.alloc (.cells #[.slice A s.pk.length a, .slice B s.sn.length b, .slice C s.lg.length c] 46)).heap.size := by simp only [World.size_alloc]; omega
    generalize (w.alloc (.cells #[.slice A s.pk.length a, .slice B s.sn.length b, .slice C s.lg.length c] 46)) = w0 at *
    have ck0 := k0.cell
    have fk0 := k0.frozen
    refine (szPackS_any s.pk _ k _ lo hi (RPksL.loc.below h1 hbw0 hhi) (Nat.le_trans hhi hbw0.size) hk hk').mono ?_
    rintro e w1 ⟨rfl, b1⟩
    rw [HS.out]
    go_wp2_with fail
    go_ret
    exact ⟨ret_int HQ.out, below_below hbw0 b1⟩
  · obtain ⟨z, hz⟩ : ∃ z : Int, z = k - ((bulkS bPk s.pk : Nat) : Int) := ⟨_, rfl⟩
    have hs1 : sub0 k (bulkS bPk s.pk) = z := by rw [hz]; exact sub0_pos (by omega)
    have HS := Lib.hid hs1; clear hs1
    have hz0 : 0 ≤ z := by omega
    have hz1 : z ≤ 1048576 := by omega
    by_cases e2 : z - ((bulkS bSn s.sn : Nat) : Int) < 0
    · have hs2 := sub0_neg e2
      have hq1 : (-1 : Int) = q := by rw [← hq, sub0_neg (by omega)]
      have HQ := Lib.hid hq1; have HS2 := Lib.hid hs2
      clear hq hq1 hs2 e1 e2 hz
      go_enter Tryz.func52, Tryz.ntmps52
      go_wp2_with fail
      have hbw0 : Below w.heap.size w (w.alloc (.cells #[.slice A s.pk.length a, .slice B s.sn.length b, .slice C s.lg.length c] 46)) := below_alloc _ _
      have k0 : Blk (w.alloc (.cells #[.slice A s.pk.length a, .slice B s.sn.length b, .slice C s.lg.length c] 46)) (w.heap.size) 46 #[.slice A s.pk.length a, .slice B s.sn.length b, .slice C s.lg.length c] := by
        have hk := Blk.new w 46 #[.slice A s.pk.length a, .slice B s.sn.length b, .slice C s.lg.length c]
        exact hk
      have hsw0 : w.heap.size + 1 ≤ (w.alloc (.cells #[.slice A s.pk.length a, .slice B s.sn.length b, .slice C s.lg.length c] 46)).heap.size := by simp only [World.size_alloc]; omega
      generalize (w.alloc (.cells #[.slice A s.pk.length a, .slice B s.sn.length b, .slice C s.lg.length c] 46)) = w0 at *
      have ck0 := k0.cell
      have fk0 := k0.frozen
      refine (szPackS_any s.pk _ k _ lo hi (RPksL.loc.below h1 hbw0 hhi) (Nat.le_trans hhi hbw0.size) hk hk').mono ?_
      rintro e w1 ⟨rfl, b1⟩
      rw [HS.out]
      replace k0 := blk_keep k0 b1
      replace ck0 := k0.cell
      replace fk0 := k0.frozen
      replace hbw0 := below_below hbw0 b1
      go_wp2_with fail
      refine (szSnapS_any s.sn _ z _ lo hi (RSnsL.loc.below h2 hbw0 hhi) (Nat.le_trans hhi hbw0.size) hz0 hz1).mono ?_
      rintro e w2 ⟨rfl, b2⟩
      rw [HS2.out]
      go_wp2_with fail
      go_ret
      exact ⟨ret_int HQ.out, below_below hbw0 b2⟩
    · obtain ⟨y, hy⟩ : ∃ y : Int, y = z - ((bulkS bSn s.sn : Nat) : Int) := ⟨_, rfl⟩
      have hs2 : sub0 z (bulkS bSn s.sn) = y := by rw [hy]; exact sub0_pos (by omega)
      have HS2 := Lib.hid hs2; clear hs2
      have hy0 : 0 ≤ y := by omega
      have hy1 : y ≤ 1048576 := by omega
      by_cases e3 : y - (s.lg.length : Int) < 0
      · have hs3 := sub0_neg e3
        have hq1 : (-1 : Int) = q := by rw [← hq, sub0_neg (by omega)]
        have HQ := Lib.hid hq1; have HS3 := Lib.hid hs3
        clear hq hq1 hs3 e1 e2 hz hy e3
        go_enter Tryz.func52, Tryz.ntmps52
        go_wp2_with fail
        have hbw0 : Below w.heap.size w (w.alloc (.cells #[.slice A s.pk.length a, .slice B s.sn.length b, .slice C s.lg.length c] 46)) := below_alloc _ _
        have k0 : Blk (w.alloc (.cells #[.slice A s.pk.length a, .slice B s.sn.length b, .slice C s.lg.length c] 46)) (w.heap.size) 46 #[.slice A s.pk.length a, .slice B s.sn.length b, .slice C s.lg.length c] := by
          have hk := Blk.new w 46 #[.slice A s.pk.length a, .slice B s.sn.length b, .slice C s.lg.length c]
          exact hk
        have hsw0 : w.heap.size + 1 ≤ (w.alloc (.cells #[.slice A s.pk.length a, .slice B s.sn.length b, .slice C s.lg.length c] 46)).heap.size := by simp only [World.size_alloc]; omega
        generalize (w.alloc (.cells #[.slice A s.pk.length a, .slice B s.sn.length b, .slice C s.lg.length c] 46)) = w0 at *
        have ck0 := k0.cell
        have fk0 := k0.frozen
        refine (szPackS_any s.pk _ k _ lo hi (RPksL.loc.below h1 hbw0 hhi) (Nat.le_trans hhi hbw0.size) hk hk').mono ?_
        rintro e w1 ⟨rfl, b1⟩
        rw [HS.out]
        replace k0 := blk_keep k0 b1
        replace ck0 := k0.cell
        replace fk0 := k0.frozen
        replace hbw0 := below_below hbw0 b1
        go_wp2_with fail
        refine (szSnapS_any s.sn _ z _ lo hi (RSnsL.loc.below h2 hbw0 hhi) (Nat.le_trans hhi hbw0.size) hz0 hz1).mono ?_
        rintro e w2 ⟨rfl, b2⟩
        rw [HS2.out]
        replace k0 := blk_keep k0 b2
        replace ck0 := k0.cell
        replace fk0 := k0.frozen
        replace hbw0 := below_below hbw0 b2
        go_wp2_with fail
        refine (szHeadS_any s.lg.length c C y _ (by omega) hy0 hy1).mono ?_
        rintro e w3 ⟨rfl, rfl⟩
        rw [HS3.out]
        go_wp2_with fail
        go_ret
        exact ⟨ret_int HQ.out, hbw0⟩
      · obtain ⟨x, hx'⟩ : ∃ x : Int, x = y - (s.lg.length : Int) := ⟨_, rfl⟩
        have hs3 : sub0 y s.lg.length = x := by rw [hx']; exact sub0_pos (by omega)
        have hq1 : x = q := by rw [← hq, sub0_pos (by omega)]; omega
        have hx0 : 0 ≤ x := by omega
        have HQ := Lib.hid hq1; have HS3 := Lib.hid hs3
        clear hq hq1 hs3 e1 e2 hz hy e3 hx'
        go_enter Tryz.func52, Tryz.ntmps52
        go_wp2_with fail
        have hbw0 : Below w.heap.size w (w.alloc (.cells #[.slice A s.pk.length a, .slice B s.sn.length b, .slice C s.lg.length c] 46)) := below_alloc _ _
        have k0 : Blk (w.alloc (.cells #[.slice A s.pk.length a, .slice B s.sn.length b, .slice C s.lg.length c] 46)) (w.heap.size) 46 #[.slice A s.pk.length a, .slice B s.sn.length b, .slice C s.lg.length c] := by
          have hk := Blk.new w 46 #[.slice A s.pk.length a, .slice B s.sn.length b, .slice C s.lg.length c]
          exact hk
        have hsw0 : w.heap.size + 1 ≤ (w.alloc (.cells #[.slice A s.pk.length a, .slice B s.sn.length b, .slice C s.lg.length c] 46)).heap.size := by simp only [World.size_alloc]; omega
        generalize (w.alloc (.cells #[.slice A s.pk.length a, .slice B s.sn.length b, .slice C s.lg.length c] 46)) = w0 at *
        have ck0 := k0.cell
        have fk0 := k0.frozen
        refine (szPackS_any s.pk _ k _ lo hi (RPksL.loc.below h1 hbw0 hhi) (Nat.le_trans hhi hbw0.size) hk hk').mono ?_
        rintro e w1 ⟨rfl, b1⟩
        rw [HS.out]
        replace k0 := blk_keep k0 b1
        replace ck0 := k0.cell
        replace fk0 := k0.frozen
        replace hbw0 := below_below hbw0 b1
        go_wp2_with fail
        refine (szSnapS_any s.sn _ z _ lo hi (RSnsL.loc.below h2 hbw0 hhi) (Nat.le_trans hhi hbw0.size) hz0 hz1).mono ?_
        rintro e w2 ⟨rfl, b2⟩
        rw [HS2.out]
        replace k0 := blk_keep k0 b2
        replace ck0 := k0.cell
        replace fk0 := k0.frozen
        replace hbw0 := below_below hbw0 b2
        go_wp2_with fail
        refine (szHeadS_any s.lg.length c C y _ (by omega) hy0 hy1).mono ?_
        rintro e w3 ⟨rfl, rfl⟩
        rw [HS3.out]
        go_wp2_with fail
        go_ret
        exact ⟨ret_int HQ.out, hbw0⟩
def NewSto (w : World) (s : Sto) (e : Ending) (w' : World) : Prop := ∃ va vb vc, e = .returned (.agg #[va, vb, vc]) ∧ OSto w' w.heap.size w'.heap.size s va vb vc ∧ Below w.heap.size w w'
set_option maxHeartbeats 1000000 in
theorem toStore_any (s : Sto) (va vb vc : Value) (w : World) (lo hi : Nat) (h : RStoL w lo hi s va vb vc) (hhi : hi ≤ w.heap.size) (hl : bSto s ≤ 1048576) :
    Calls Tryz.prog 53 #[.agg #[va, vb, vc]] w (NewSto w s) := by
  obtain ⟨h1, h2, h3⟩ := h
  obtain ⟨A, a, rfl⟩ := RSl.form h1
  obtain ⟨B, b, rfl⟩ := RSl.form h2
  obtain ⟨C, c, rfl⟩ := RSl.form h3
  unfold bSto at hl
  go_enter Tryz.func53, Tryz.ntmps53
  go_wp2_with fail
  have hbw0 : Below w.heap.size w (((w.alloc (.cells #[.slice A s.pk.length a, .slice B s.sn.length b, .slice C s.lg.length c] 46)).alloc (.cells #[.slice none 0 0, .slice none 0 0, .slice none 0 0] 27)).alloc (.cells #[.slice none 0 0, .slice none 0 0, .slice none 0 0] 27)) := below_alloc' (below_alloc' (below_alloc _ _) _) _
  have k0 : Blk (((w.alloc (.cells #[.slice A s.pk.length a, .slice B s.sn.length b, .slice C s.lg.length c] 46)).alloc (.cells #[.slice none 0 0, .slice none 0 0, .slice none 0 0] 27)).alloc (.cells #[.slice none 0 0, .slice none 0 0, .slice none 0 0] 27)) (w.heap.size) 46 #[.slice A s.pk.length a, .slice B s.sn.length b, .slice C s.lg.length c] := by
    have hk := blk_alloc (blk_alloc (Blk.new w 46 #[.slice A s.pk.length a, .slice B s.sn.length b, .slice C s.lg.length c]) (.cells #[.slice none 0 0, .slice none 0 0, .slice none 0 0] 27)) (.cells #[.slice none 0 0, .slice none 0 0, .slice none 0 0] 27)
    exact hk
  have k1 : Blk (((w.alloc (.cells #[.slice A s.pk.length a, .slice B s.sn.length b, .slice C s.lg.length c] 46)).alloc (.cells #[.slice none 0 0, .slice none 0 0, .slice none 0 0] 27)).alloc (.cells #[.slice none 0 0, .slice none 0 0, .slice none 0 0] 27)) (w.heap.size + 1) 27 #[.slice none 0 0, .slice none 0 0, .slice none 0 0] := by
    have hk := blk_alloc (Blk.new (w.alloc (.cells #[.slice A s.pk.length a, .slice B s.sn.length b, .slice C s.lg.length c] 46)) 27 #[.slice none 0 0, .slice none 0 0, .slice none 0 0]) (.cells #[.slice none 0 0, .slice none 0 0, .slice none 0 0] 27)
    simp only [World.size_alloc] at hk
    exact hk
  have k2 : Blk (((w.alloc (.cells #[.slice A s.pk.length a, .slice B s.sn.length b, .slice C s.lg.length c] 46)).alloc (.cells #[.slice none 0 0, .slice none 0 0, .slice none 0 0] 27)).alloc (.cells #[.slice none 0 0, .slice none 0 0, .slice none 0 0] 27)) (w.heap.size + 1 + 1) 27 #[.slice none 0 0, .slice none 0 0, .slice none 0 0] := by
    have hk := Blk.new ((w.alloc (.cells #[.slice A s.pk.length a, .slice B s.sn.length b, .slice C s.lg.length c] 46)).alloc (.cells #[.slice none 0 0, .slice none 0 0, .slice none 0 0] 27)) 27 #[.slice none 0 0, .slice none 0 0, .slice none 0 0]
    simp only [World.size_alloc] at hk
    exact hk
  have hsw0 : w.heap.size + 3 ≤ (((w.alloc (.cells #[.slice A s.pk.length a, .slice B s.sn.length b, .slice C s.lg.length c] 46)).alloc (.cells #[.slice none 0 0, .slice none 0 0, .slice none 0 0] 27)).alloc (.cells #[.slice none 0 0, .slice none 0 0, .slice none 0 0] 27)).heap.size := by simp only [World.size_alloc]; omega
  generalize (((w.alloc (.cells #[.slice A s.pk.length a, .slice B s.sn.length b, .slice C s.lg.length c] 46)).alloc (.cells #[.slice none 0 0, .slice none 0 0, .slice none 0 0] 27)).alloc (.cells #[.slice none 0 0, .slice none 0 0, .slice none 0 0] 27)) = w0 at *
  have ck0 := k0.cell
  have fk0 := k0.frozen
  have ck1 := k1.cell
  have fk1 := k1.frozen
  have ck2 := k2.cell
  have fk2 := k2.frozen
  refine (toPackS_any s.pk _ _ lo hi (RPksL.loc.below h1 hbw0 hhi) (Nat.le_trans hhi hbw0.size) (by omega)).mono ?_
  rintro e w1 ⟨v1, rfl, o1, b1⟩
  replace k0 := blk_keep k0 b1
  replace ck0 := k0.cell
  replace fk0 := k0.frozen
  replace k1 := blk_keep k1 b1
  replace ck1 := k1.cell
  replace fk1 := k1.frozen
  replace k2 := blk_keep k2 b1
  replace ck2 := k2.cell
  replace fk2 := k2.frozen
  obtain ⟨A1, a1, rfl⟩ := o1.form
  have z1 := b1.size
  have HO1 := Lib.hid o1; clear o1
  go_wp2_with fail
  replace hbw0 := (below_below hbw0 b1).setCell (p := ⟨w.heap.size + 1 + 1, 0, none⟩) (by dsimp only; omega) (.slice A1 s.pk.length a1)
  have HE1 := Lib.hid (fun b (hb : w0.heap.size ≤ b) => Below.heap_setCell w1 ⟨w.heap.size + 1 + 1, 0, none⟩ (.slice A1 s.pk.length a1) b (by dsimp only; omega))
  replace k2 := k2.set_ 0 (.slice A1 s.pk.length a1)
  simp only [List.setIfInBounds_toArray, List.set_cons_zero, List.set_cons_succ] at k2
  replace k0 := blk_ne k0 (p := ⟨w.heap.size + 1 + 1, 0, none⟩) (.slice A1 s.pk.length a1) (by first | (dsimp only; omega) | (simp; done) | (simp; omega))
  replace k1 := blk_ne k1 (p := ⟨w.heap.size + 1 + 1, 0, none⟩) (.slice A1 s.pk.length a1) (by first | (dsimp only; omega) | (simp; done) | (simp; omega))
  have hsw2 : w1.heap.size ≤ (w1.setCell ⟨w.heap.size + 1 + 1, 0, none⟩ (.slice A1 s.pk.length a1)).heap.size := by simp only [World.size_setCell]; exact Nat.le_refl _
  generalize w1.setCell ⟨w.heap.size + 1 + 1, 0, none⟩ (.slice A1 s.pk.length a1) = w2 at *
  replace ck2 := k2.cell
  replace fk2 := k2.frozen
  replace ck0 := k0.cell
  replace fk0 := k0.frozen
  replace ck1 := k1.cell
  replace fk1 := k1.frozen
  have HP1 : Hid (OPks w2 w0.heap.size w1.heap.size s.pk [.slice A1 s.pk.length a1]) := Lib.hid (OPks.tloc.loc.go (fun b hb _ => HE1.out b hb) (Nat.le_refl _) (Nat.le_refl _) HO1.out)
  clear HO1 HE1
  refine (toSnapS_any s.sn _ _ lo hi (RSnsL.loc.below h2 hbw0 hhi) (Nat.le_trans hhi hbw0.size) (by omega)).mono ?_
  rintro e w3 ⟨v3, rfl, o3, b3⟩
  replace k0 := blk_keep k0 b3
  replace ck0 := k0.cell
  replace fk0 := k0.frozen
  replace k1 := blk_keep k1 b3
  replace ck1 := k1.cell
  replace fk1 := k1.frozen
  replace k2 := blk_keep k2 b3
  replace ck2 := k2.cell
  replace fk2 := k2.frozen
  obtain ⟨A3, a3, rfl⟩ := o3.form
  have z3 := b3.size
  have HO3 := Lib.hid o3; clear o3
  have HQ1 := Lib.hid (OPks.tloc.below HP1.out b3 hsw2)
  clear HP1
  go_wp2_with fail
  replace hbw0 := (below_below hbw0 b3).setCell (p := ⟨w.heap.size + 1 + 1, 1, none⟩) (by dsimp only; omega) (.slice A3 s.sn.length a3)
  have HE3 := Lib.hid (fun b (hb : w0.heap.size ≤ b) => Below.heap_setCell w3 ⟨w.heap.size + 1 + 1, 1, none⟩ (.slice A3 s.sn.length a3) b (by dsimp only; omega))
  replace k2 := k2.set_ 1 (.slice A3 s.sn.length a3)
  simp only [List.setIfInBounds_toArray, List.set_cons_zero, List.set_cons_succ] at k2
  replace k0 := blk_ne k0 (p := ⟨w.heap.size + 1 + 1, 1, none⟩) (.slice A3 s.sn.length a3) (by first | (dsimp only; omega) | (simp; done) | (simp; omega))
  replace k1 := blk_ne k1 (p := ⟨w.heap.size + 1 + 1, 1, none⟩) (.slice A3 s.sn.length a3) (by first | (dsimp only; omega) | (simp; done) | (simp; omega))
  have hsw4 : w3.heap.size ≤ (w3.setCell ⟨w.heap.size + 1 + 1, 1, none⟩ (.slice A3 s.sn.length a3)).heap.size := by simp only [World.size_setCell]; exact Nat.le_refl _
  generalize w3.setCell ⟨w.heap.size + 1 + 1, 1, none⟩ (.slice A3 s.sn.length a3) = w4 at *
  replace ck2 := k2.cell
  replace fk2 := k2.frozen
  replace ck0 := k0.cell
  replace fk0 := k0.frozen
  replace ck1 := k1.cell
  replace fk1 := k1.frozen
  have HP1 : Hid (OPks w4 w0.heap.size w1.heap.size s.pk [.slice A1 s.pk.length a1]) := Lib.hid (OPks.tloc.loc.go (fun b hb _ => HE3.out b hb) (Nat.le_refl _) (Nat.le_refl _) HQ1.out)
  have HP3 : Hid (OSns w4 w2.heap.size w3.heap.size s.sn [.slice A3 s.sn.length a3]) := Lib.hid (OSns.tloc.loc.go (fun b hb _ => HE3.out b (by omega)) (Nat.le_refl _) (Nat.le_refl _) HO3.out)
  clear HO3 HE3 HQ1
  refine (toHeadS_any s.lg _ _ lo hi (RHdsL.loc.below h3 hbw0 hhi) (Nat.le_trans hhi hbw0.size) (by omega)).mono ?_
  rintro e w5 ⟨v5, rfl, o5, b5⟩
  replace k0 := blk_keep k0 b5
  replace ck0 := k0.cell
  replace fk0 := k0.frozen
  replace k1 := blk_keep k1 b5
  replace ck1 := k1.cell
  replace fk1 := k1.frozen
  replace k2 := blk_keep k2 b5
  replace ck2 := k2.cell
  replace fk2 := k2.frozen
  obtain ⟨A5, a5, rfl⟩ := o5.form
  have z5 := b5.size
  have HO5 := Lib.hid o5; clear o5
  have HQ1 := Lib.hid (OPks.tloc.below HP1.out b5 (by omega))
  have HQ3 := Lib.hid (OSns.tloc.below HP3.out b5 (by omega))
  clear HP1 HP3
  go_wp2_with fail
  have hke : ∀ (u0 u1 u2 u3 : Value) (b : Nat), w0.heap.size ≤ b → ((((w5.setCell ⟨w.heap.size + 1 + 1, 2, none⟩ u0).setCell ⟨w.heap.size + 1, 0, none⟩ u1).setCell ⟨w.heap.size + 1, 1, none⟩ u2).setCell ⟨w.heap.size + 1, 2, none⟩ u3).heap[b]? = w5.heap[b]? := fun u0 u1 u2 u3 b hb => by
    rw [Below.heap_setCell _ _ _ _ (by dsimp only; omega), Below.heap_setCell _ _ _ _ (by dsimp only; omega), Below.heap_setCell _ _ _ _ (by dsimp only; omega), Below.heap_setCell _ _ _ _ (by dsimp only; omega)]
  exact bodyPost_ret (v := .agg #[_, _, _]) (by simp [results, Tryz.results53, go_sem, ck1]) rfl ⟨_, _, _, rfl,
    ⟨OPks.tloc.loc.go (fun b hb _ => hke _ _ _ _ b hb) (by omega) (by simp only [World.size_setCell]; omega) HQ1.out, OSns.tloc.loc.go (fun b hb _ => hke _ _ _ _ b (by omega)) (by omega) (by simp only [World.size_setCell]; omega) HQ3.out, OHds.tloc.loc.go (fun b hb _ => hke _ _ _ _ b (by omega)) (by omega) (by simp only [World.size_setCell]; exact Nat.le_refl _) HO5.out⟩,
    ((((below_below hbw0 b5).setCell (by dsimp only; omega) _).setCell (by dsimp only; omega) _).setCell (by dsimp only; omega) _).setCell (by dsimp only; omega) _⟩
set_option maxHeartbeats 1000000 in
theorem eqStore_any (s t : Sto) (va vb vc vd ve vf : Value) (w : World) (lo hi lo2 hi2 : Nat) (hs : RStoL w lo hi s va vb vc) (ht : RStoL w lo2 hi2 t vd ve vf) (hhi : hi ≤ w.heap.size) (hhi2 : hi2 ≤ w.heap.size) (q : Bool) (hq : q = true ↔ s = t) :
    Calls Tryz.prog 54 #[.agg #[va, vb, vc], .agg #[vd, ve, vf]] w fun e w' => e = .returned (.bool q) ∧ Below w.heap.size w w' := by
  have HB := Lib.hid hq; clear hq
  obtain ⟨h1, h2, h3⟩ := hs
  obtain ⟨A, a, rfl⟩ := RSl.form h1
  obtain ⟨B, b, rfl⟩ := RSl.form h2
  obtain ⟨C, c, rfl⟩ := RSl.form h3
  obtain ⟨g1, g2, g3⟩ := ht
  obtain ⟨A2, a2, rfl⟩ := RSl.form g1
  obtain ⟨B2, b2, rfl⟩ := RSl.form g2
  obtain ⟨C2, c2, rfl⟩ := RSl.form g3
  by_cases e1 : s.pk = t.pk
  · have E1 := Lib.hid e1; clear e1
    by_cases e2 : s.sn = t.sn
    · have E2 := Lib.hid e2; clear e2
      by_cases e3 : s.lg = t.lg
      · have hbt : q = true := HB.out.2 (by cases s; cases t; simp only [Sto.mk.injEq]; exact ⟨E1.out, E2.out, e3⟩)
        have HT := Lib.hid hbt; clear hbt
        have E3 := Lib.hid e3; clear e3
        go_enter Tryz.func54, Tryz.ntmps54
        go_wp2_with fail
        have hbw0 : Below w.heap.size w ((w.alloc (.cells #[.slice A s.pk.length a, .slice B s.sn.length b, .slice C s.lg.length c] 27)).alloc (.cells #[.slice A2 t.pk.length a2, .slice B2 t.sn.length b2, .slice C2 t.lg.length c2] 27)) := below_alloc' (below_alloc _ _) _
        have k0 : Blk ((w.alloc (.cells #[.slice A s.pk.length a, .slice B s.sn.length b, .slice C s.lg.length c] 27)).alloc (.cells #[.slice A2 t.pk.length a2, .slice B2 t.sn.length b2, .slice C2 t.lg.length c2] 27)) (w.heap.size) 27 #[.slice A s.pk.length a, .slice B s.sn.length b, .slice C s.lg.length c] := by
          have hk := blk_alloc (Blk.new w 27 #[.slice A s.pk.length a, .slice B s.sn.length b, .slice C s.lg.length c]) (.cells #[.slice A2 t.pk.length a2, .slice B2 t.sn.length b2, .slice C2 t.lg.length c2] 27)
          exact hk
        have k1 : Blk ((w.alloc (.cells #[.slice A s.pk.length a, .slice B s.sn.length b, .slice C s.lg.length c] 27)).alloc (.cells #[.slice A2 t.pk.length a2, .slice B2 t.sn.length b2, .slice C2 t.lg.length c2] 27)) (w.heap.size + 1) 27 #[.slice A2 t.pk.length a2, .slice B2 t.sn.length b2, .slice C2 t.lg.length c2] := by
          have hk := Blk.new (w.alloc (.cells #[.slice A s.pk.length a, .slice B s.sn.length b, .slice C s.lg.length c] 27)) 27 #[.slice A2 t.pk.length a2, .slice B2 t.sn.length b2, .slice C2 t.lg.length c2]
          simp only [World.size_alloc] at hk
          exact hk
        have hsw0 : w.heap.size + 2 ≤ ((w.alloc (.cells #[.slice A s.pk.length a, .slice B s.sn.length b, .slice C s.lg.length c] 27)).alloc (.cells #[.slice A2 t.pk.length a2, .slice B2 t.sn.length b2, .slice C2 t.lg.length c2] 27)).heap.size := by simp only [World.size_alloc]; omega
        generalize ((w.alloc (.cells #[.slice A s.pk.length a, .slice B s.sn.length b, .slice C s.lg.length c] 27)).alloc (.cells #[.slice A2 t.pk.length a2, .slice B2 t.sn.length b2, .slice C2 t.lg.length c2] 27)) = w0 at *
        have ck0 := k0.cell
        have fk0 := k0.frozen
        have ck1 := k1.cell
        have fk1 := k1.frozen
        refine (eqPackS_any s.pk t.pk _ _ _ lo hi lo2 hi2 (RPksL.loc.below h1 hbw0 hhi) (RPksL.loc.below g1 hbw0 hhi2) (Nat.le_trans hhi hbw0.size) (Nat.le_trans hhi2 hbw0.size) true (by simp only [true_iff]; exact E1.out)).mono ?_
        rintro e w1 ⟨rfl, b1⟩
        replace k0 := blk_keep k0 b1
        replace ck0 := k0.cell
        replace fk0 := k0.frozen
        replace k1 := blk_keep k1 b1
        replace ck1 := k1.cell
        replace fk1 := k1.frozen
        replace hbw0 := below_below hbw0 b1
        go_wp2_with fail
        refine (eqSnapS_any s.sn t.sn _ _ _ lo hi lo2 hi2 (RSnsL.loc.below h2 hbw0 hhi) (RSnsL.loc.below g2 hbw0 hhi2) (Nat.le_trans hhi hbw0.size) (Nat.le_trans hhi2 hbw0.size) true (by simp only [true_iff]; exact E2.out)).mono ?_
        rintro e w2 ⟨rfl, b2⟩
        replace k0 := blk_keep k0 b2
        replace ck0 := k0.cell
        replace fk0 := k0.frozen
        replace k1 := blk_keep k1 b2
        replace ck1 := k1.cell
        replace fk1 := k1.frozen
        replace hbw0 := below_below hbw0 b2
        go_wp2_with fail
        refine (eqHeadS_any s.lg t.lg _ _ _ lo hi lo2 hi2 (RHdsL.loc.below h3 hbw0 hhi) (RHdsL.loc.below g3 hbw0 hhi2) (Nat.le_trans hhi hbw0.size) (Nat.le_trans hhi2 hbw0.size) true (by simp only [true_iff]; exact E3.out)).mono ?_
        rintro e w3 ⟨rfl, b3⟩
        replace hbw0 := below_below hbw0 b3
        go_wp2_with fail
        go_ret
        exact ⟨ret_bool HT.out.symm, hbw0⟩
      · have hbf : q = false := by rw [← Bool.not_eq_true, HB.out]; rintro rfl; exact e3 rfl
        have HT := Lib.hid hbf; clear hbf
        have E3 := Lib.hid e3; clear e3
        go_enter Tryz.func54, Tryz.ntmps54
        go_wp2_with fail
        have hbw0 : Below w.heap.size w ((w.alloc (.cells #[.slice A s.pk.length a, .slice B s.sn.length b, .slice C s.lg.length c] 27)).alloc (.cells #[.slice A2 t.pk.length a2, .slice B2 t.sn.length b2, .slice C2 t.lg.length c2] 27)) := below_alloc' (below_alloc _ _) _
        have k0 : Blk ((w.alloc (.cells #[.slice A s.pk.length a, .slice B s.sn.length b, .slice C s.lg.length c] 27)).alloc (.cells #[.slice A2 t.pk.length a2, .slice B2 t.sn.length b2, .slice C2 t.lg.length c2] 27)) (w.heap.size) 27 #[.slice A s.pk.length a, .slice B s.sn.length b, .slice C s.lg.length c] := by
          have hk := blk_alloc (Blk.new w 27 #[.slice A s.pk.length a, .slice B s.sn.length b, .slice C s.lg.length c]) (.cells #[.slice A2 t.pk.length a2, .slice B2 t.sn.length b2, .slice C2 t.lg.length c2] 27)
          exact hk
        have k1 : Blk ((w.alloc (.cells #[.slice A s.pk.length a, .slice B s.sn.length b, .slice C s.lg.length c] 27)).alloc (.cells #[.slice A2 t.pk.length a2, .slice B2 t.sn.length b2, .slice C2 t.lg.length c2] 27)) (w.heap.size + 1) 27 #[.slice A2 t.pk.length a2, .slice B2 t.sn.length b2, .slice C2 t.lg.length c2] := by
          have hk := Blk.new (w.alloc (.cells #[.slice A s.pk.length a, .slice B s.sn.length b, .slice C s.lg.length c] 27)) 27 #[.slice A2 t.pk.length a2, .slice B2 t.sn.length b2, .slice C2 t.lg.length c2]
          simp only [World.size_alloc] at hk
          exact hk
        have hsw0 : w.heap.size + 2 ≤ ((w.alloc (.cells #[.slice A s.pk.length a, .slice B s.sn.length b, .slice C s.lg.length c] 27)).alloc (.cells #[.slice A2 t.pk.length a2, .slice B2 t.sn.length b2, .slice C2 t.lg.length c2] 27)).heap.size := by simp only [World.size_alloc]; omega
        generalize ((w.alloc (.cells #[.slice A s.pk.length a, .slice B s.sn.length b, .slice C s.lg.length c] 27)).alloc (.cells #[.slice A2 t.pk.length a2, .slice B2 t.sn.length b2, .slice C2 t.lg.length c2] 27)) = w0 at *
        have ck0 := k0.cell
        have fk0 := k0.frozen
        have ck1 := k1.cell
        have fk1 := k1.frozen
        refine (eqPackS_any s.pk t.pk _ _ _ lo hi lo2 hi2 (RPksL.loc.below h1 hbw0 hhi) (RPksL.loc.below g1 hbw0 hhi2) (Nat.le_trans hhi hbw0.size) (Nat.le_trans hhi2 hbw0.size) true (by simp only [true_iff]; exact E1.out)).mono ?_
        rintro e w1 ⟨rfl, b1⟩
        replace k0 := blk_keep k0 b1
        replace ck0 := k0.cell
        replace fk0 := k0.frozen
        replace k1 := blk_keep k1 b1
        replace ck1 := k1.cell
        replace fk1 := k1.frozen
        replace hbw0 := below_below hbw0 b1
        go_wp2_with fail
        refine (eqSnapS_any s.sn t.sn _ _ _ lo hi lo2 hi2 (RSnsL.loc.below h2 hbw0 hhi) (RSnsL.loc.below g2 hbw0 hhi2) (Nat.le_trans hhi hbw0.size) (Nat.le_trans hhi2 hbw0.size) true (by simp only [true_iff]; exact E2.out)).mono ?_
        rintro e w2 ⟨rfl, b2⟩
        replace k0 := blk_keep k0 b2
        replace ck0 := k0.cell
        replace fk0 := k0.frozen
        replace k1 := blk_keep k1 b2
        replace ck1 := k1.cell
        replace fk1 := k1.frozen
        replace hbw0 := below_below hbw0 b2
        go_wp2_with fail
        refine (eqHeadS_any s.lg t.lg _ _ _ lo hi lo2 hi2 (RHdsL.loc.below h3 hbw0 hhi) (RHdsL.loc.below g3 hbw0 hhi2) (Nat.le_trans hhi hbw0.size) (Nat.le_trans hhi2 hbw0.size) false (by simp only [Bool.false_eq_true, false_iff]; exact E3.out)).mono ?_
        rintro e w3 ⟨rfl, b3⟩
        replace hbw0 := below_below hbw0 b3
        go_wp2_with fail
        go_ret
        exact ⟨ret_bool HT.out.symm, hbw0⟩
    · have hbf : q = false := by rw [← Bool.not_eq_true, HB.out]; rintro rfl; exact e2 rfl
      have HT := Lib.hid hbf; clear hbf
      have E2 := Lib.hid e2; clear e2
      go_enter Tryz.func54, Tryz.ntmps54
      go_wp2_with fail
      have hbw0 : Below w.heap.size w ((w.alloc (.cells #[.slice A s.pk.length a, .slice B s.sn.length b, .slice C s.lg.length c] 27)).alloc (.cells #[.slice A2 t.pk.length a2, .slice B2 t.sn.length b2, .slice C2 t.lg.length c2] 27)) := below_alloc' (below_alloc _ _) _
      have k0 : Blk ((w.alloc (.cells #[.slice A s.pk.length a, .slice B s.sn.length b, .slice C s.lg.length c] 27)).alloc (.cells #[.slice A2 t.pk.length a2, .slice B2 t.sn.length b2, .slice C2 t.lg.length c2] 27)) (w.heap.size) 27 #[.slice A s.pk.length a, .slice B s.sn.length b, .slice C s.lg.length c] := by
        have hk := blk_alloc (Blk.new w 27 #[.slice A s.pk.length a, .slice B s.sn.length b, .slice C s.lg.length c]) (.cells #[.slice A2 t.pk.length a2, .slice B2 t.sn.length b2, .slice C2 t.lg.length c2] 27)
        exact hk
      have k1 : Blk ((w.alloc (.cells #[.slice A s.pk.length a, .slice B s.sn.length b, .slice C s.lg.length c] 27)).alloc (.cells #[.slice A2 t.pk.length a2, .slice B2 t.sn.length b2, .slice C2 t.lg.length c2] 27)) (w.heap.size + 1) 27 #[.slice A2 t.pk.length a2, .slice B2 t.sn.length b2, .slice C2 t.lg.length c2] := by
        have hk := Blk.new (w.alloc (.cells #[.slice A s.pk.length a, .slice B s.sn.length b, .slice C s.lg.length c] 27)) 27 #[.slice A2 t.pk.length a2, .slice B2 t.sn.length b2, .slice C2 t.lg.length c2]
        simp only [World.size_alloc] at hk
        exact hk
      have hsw0 : w.heap.size + 2 ≤ ((w.alloc (.cells #[.slice A s.pk.length a, .slice B s.sn.length b, .slice C s.lg.length c] 27)).alloc (.cells #[.slice A2 t.pk.length a2, .slice B2 t.sn.length b2, .slice C2 t.lg.length c2] 27)).heap.size := by simp only [World.size_alloc]; omega
      generalize ((w.alloc (.cells #[.slice A s.pk.length a, .slice B s.sn.length b, .slice C s.lg.length c] 27)).alloc (.cells #[.slice A2 t.pk.length a2, .slice B2 t.sn.length b2, .slice C2 t.lg.length c2] 27)) = w0 at *
      have ck0 := k0.cell
      have fk0 := k0.frozen
      have ck1 := k1.cell
      have fk1 := k1.frozen
      refine (eqPackS_any s.pk t.pk _ _ _ lo hi lo2 hi2 (RPksL.loc.below h1 hbw0 hhi) (RPksL.loc.below g1 hbw0 hhi2) (Nat.le_trans hhi hbw0.size) (Nat.le_trans hhi2 hbw0.size) true (by simp only [true_iff]; exact E1.out)).mono ?_
      rintro e w1 ⟨rfl, b1⟩
      replace k0 := blk_keep k0 b1
      replace ck0 := k0.cell
      replace fk0 := k0.frozen
      replace k1 := blk_keep k1 b1
      replace ck1 := k1.cell
      replace fk1 := k1.frozen
      replace hbw0 := below_below hbw0 b1
      go_wp2_with fail
      refine (eqSnapS_any s.sn t.sn _ _ _ lo hi lo2 hi2 (RSnsL.loc.below h2 hbw0 hhi) (RSnsL.loc.below g2 hbw0 hhi2) (Nat.le_trans hhi hbw0.size) (Nat.le_trans hhi2 hbw0.size) false (by simp only [Bool.false_eq_true, false_iff]; exact E2.out)).mono ?_
      rintro e w2 ⟨rfl, b2⟩
      replace k0 := blk_keep k0 b2
      replace ck0 := k0.cell
      replace fk0 := k0.frozen
      replace k1 := blk_keep k1 b2
      replace ck1 := k1.cell
      replace fk1 := k1.frozen
      replace hbw0 := below_below hbw0 b2
      go_wp2_with fail
      go_ret
      exact ⟨ret_bool HT.out.symm, hbw0⟩
  · have hbf : q = false := by rw [← Bool.not_eq_true, HB.out]; rintro rfl; exact e1 rfl
    have HT := Lib.hid hbf; clear hbf
    have E1 := Lib.hid e1; clear e1
    go_enter Tryz.func54, Tryz.ntmps54
    go_wp2_with fail
    have hbw0 : Below w.heap.size w ((w.alloc (.cells #[.slice A s.pk.length a, .slice B s.sn.length b, .slice C s.lg.length c] 27)).alloc (.cells #[.slice A2 t.pk.length a2, .slice B2 t.sn.length b2, .slice C2 t.lg.length c2] 27)) := below_alloc' (below_alloc _ _) _
    have k0 : Blk ((w.alloc (.cells #[.slice A s.pk.length a, .slice B s.sn.length b, .slice C s.lg.length c] 27)).alloc (.cells #[.slice A2 t.pk.length a2, .slice B2 t.sn.length b2, .slice C2 t.lg.length c2] 27)) (w.heap.size) 27 #[.slice A s.pk.length a, .slice B s.sn.length b, .slice C s.lg.length c] := by
      have hk := blk_alloc (Blk.new w 27 #[.slice A s.pk.length a, .slice B s.sn.length b, .slice C s.lg.length c]) (.cells #[.slice A2 t.pk.length a2, .slice B2 t.sn.length b2, .slice C2 t.lg.length c2] 27)
      exact hk
    have k1 : Blk ((w.alloc (.cells #[.slice A s.pk.length a, .slice B s.sn.length b, .slice C s.lg.length c] 27)).alloc (.cells #[.slice A2 t.pk.length a2, .slice B2 t.sn.length b2, .slice C2 t.lg.length c2] 27)) (w.heap.size + 1) 27 #[.slice A2 t.pk.length a2, .slice B2 t.sn.length b2, .slice C2 t.lg.length c2] := by
      have hk := Blk.new (w.alloc (.cells #[.slice A s.pk.length a, .slice B s.sn.length b, .slice C s.lg.length c] 27)) 27 #[.slice A2 t.pk.length a2, .slice B2 t.sn.length b2, .slice C2 t.lg.length c2]
      simp only [World.size_alloc] at hk
      exact hk
    have hsw0 : w.heap.size + 2 ≤ ((w.alloc (.cells #[.slice A s.pk.length a, .slice B s.sn.length b, .slice C s.lg.length c] 27)).alloc (.cells #[.slice A2 t.pk.length a2, .slice B2 t.sn.length b2, .slice C2 t.lg.length c2] 27)).heap.size := by simp only [World.size_alloc]; omega
    generalize ((w.alloc (.cells #[.slice A s.pk.length a, .slice B s.sn.length b, .slice C s.lg.length c] 27)).alloc (.cells #[.slice A2 t.pk.length a2, .slice B2 t.sn.length b2, .slice C2 t.lg.length c2] 27)) = w0 at *
    have ck0 := k0.cell
    have fk0 := k0.frozen
    have ck1 := k1.cell
    have fk1 := k1.frozen
    refine (eqPackS_any s.pk t.pk _ _ _ lo hi lo2 hi2 (RPksL.loc.below h1 hbw0 hhi) (RPksL.loc.below g1 hbw0 hhi2) (Nat.le_trans hhi hbw0.size) (Nat.le_trans hhi2 hbw0.size) false (by simp only [Bool.false_eq_true, false_iff]; exact E1.out)).mono ?_
    rintro e w1 ⟨rfl, b1⟩
    replace k0 := blk_keep k0 b1
    replace ck0 := k0.cell
    replace fk0 := k0.frozen
    replace k1 := blk_keep k1 b1
    replace ck1 := k1.cell
    replace fk1 := k1.frozen
    replace hbw0 := below_below hbw0 b1
    go_wp2_with fail
    go_ret
    exact ⟨ret_bool HT.out.symm, hbw0⟩
end Go.Proofs.YtpdkgpbfmpekgaaGreatDoor

