


/- The helpers of the exact laws for Pack. -/
import Derived.Test.YtanppokbjladfaaEItem
namespace Go.Proofs.Ytanppokbjladfaa
open Go.RowKit

theorem szPack_any (x : Pk) (v : Value) (k : Int) (w : World) (lo hi : Nat) (h : RItsL w lo hi x.its [v]) (hhi : hi ≤ w.heap.size) (hk : 0 ≤ k) (hk' : k ≤ 1048576) : Calls Try.prog 42 #[.agg #[.int .i64 x.no, v], .int .i64 k] w fun e w' => e = .returned (.int .i64 (sub0 k (bPk x))) ∧ Below w.heap.size w w' := by
  obtain ⟨A, c, rfl⟩ := RSl.form h
  show Calls _ _ _ _ fun e w' => e = .returned (.int .i64 (sub0 k (bulkS bIt x.its))) ∧ _
  by_cases h1 : k - ((bulkS bIt x.its : Nat) : Int) < 0
  · rw [sub0_neg h1]
    have hq := sub0_neg h1
    have HQ := Lib.hid hq; clear hq h1
    go_enter Try.func42, Try.ntmps42
    go_wp2_with fail
    have ba := below_alloc w (.cells #[.int .i64 x.no, .slice A x.its.length c] 75)
    refine (szItemS_any x.its _ k _ lo hi (RItsL.loc.below h ba hhi) (Nat.le_trans hhi ba.size) hk hk').mono ?_
    rintro e w1 ⟨rfl, b1⟩
    rw [HQ.out]
    go_wp2_with fail
    go_ret
    exact ⟨rfl, below_below ba b1⟩
  · have hq := sub0_pos (k := k) (b := bulkS bIt x.its) (by omega)
    have hz : ∃ z : Int, sub0 k (bulkS bIt x.its) = z ∧ 0 ≤ z ∧ z ≤ 1048576 := ⟨_, rfl, by omega, by omega⟩
    obtain ⟨z, hz, hz0, hz1⟩ := hz
    rw [hz]
    have HQ := Lib.hid hz; clear hq h1 hz
    go_enter Try.func42, Try.ntmps42
    go_wp2_with fail
    have ba := below_alloc w (.cells #[.int .i64 x.no, .slice A x.its.length c] 75)
    refine (szItemS_any x.its _ k _ lo hi (RItsL.loc.below h ba hhi) (Nat.le_trans hhi ba.size) hk hk').mono ?_
    rintro e w1 ⟨rfl, b1⟩
    rw [HQ.out]
    go_wp2_with fail
    go_ret
    exact ⟨rfl, below_below ba b1⟩
set_option maxHeartbeats 1000000 in
theorem szPackS_any (xs : List Pk) (v : Value) (k : Int) (w : World) (lo hi : Nat) (h : RPksL w lo hi xs [v]) (hhi : hi ≤ w.heap.size) (hk : 0 ≤ k) (hk' : k ≤ 1048576) :
    Calls Try.prog 10 #[v, .int .i64 k] w fun e w' => e = .returned (.int .i64 (sub0 k (bulkS bPk xs))) ∧ Below w.heap.size w w' := by
  obtain ⟨A, c, rfl⟩ := h.form
  obtain ⟨_, hc, hx⟩ := h.len_
  unfold maxLen at hx
  by_cases hbig : k - (xs.length : Int) < 0
  · rw [sub0_neg (show k - ((bulkS bPk xs : Nat) : Int) < 0 by have := bulkS_len (f := bPk) (l := xs); omega)]
    go_enter Try.func10, Try.ntmps10
    go_wp2_with fail
    go_ret
    exact ⟨rfl, Below.refl _ _⟩
  generalize hq : sub0 k (bulkS bPk xs) = q
  have HQ := Lib.hid hq; clear hq
  go_enter Try.func10, Try.ntmps10
  go_wp2_with fail
  go_loopw [1, 5] (fun kk ii wr => ∃ j : Nat, j ≤ xs.length ∧ ii = .int .i64 j ∧ kk = .int .i64 (k - (bulkTo bPk xs j : Nat)) ∧ 0 ≤ k - ((bulkTo bPk xs j : Nat) : Int) ∧ Below w.heap.size w wr) (fun _ ii _ => xs.length - (intOf ii).toNat)
  case atStart => exact ⟨0, Nat.zero_le _, rfl, by rw [bulkTo_zero], by rw [bulkTo_zero]; omega, Below.refl _ _⟩
  case round =>
    obtain ⟨j, hj, rfl, rfl, hge, hbr⟩ := hrel
    by_cases hlt : j < xs.length
    · obtain ⟨x, hxk⟩ := some_of_lt hlt
      have hst := bulkTo_step (f := bPk) hxk
      have hle := bulkTo_le (f := bPk) (l := xs) (j := j + 1)
      have HST := Lib.hid hst; clear hst
      have HLE := Lib.hid hle; clear hle
      obtain ⟨b, off, es, rfl, _, hbb, _, ⟨v2, rfl, hgd, hr⟩, hcc⟩ := (RPksL.loc.below h hbr hhi).at_ hxk
      obtain ⟨A2, c2, rfl⟩ := RSl.form hr
      have hc0 : wr.cell? ⟨b, off + j * 2, none⟩ = some (.int .i64 x.no) := by simpa using hcc 0 _ rfl
      have hc1 : wr.cell? ⟨b, off + j * 2 + 1, none⟩ = some (.slice A2 x.its.length c2) := by simpa using hcc 1 _ rfl
      clear hcc
      have HX := Lib.hid hxk; clear hxk
      have hz : ∃ z : Int, z = k - ((bulkTo bPk xs j : Nat) : Int) ∧ 0 ≤ z ∧ z ≤ 1048576 := ⟨_, rfl, hge, by omega⟩
      obtain ⟨z, hz, hz0, hz1⟩ := hz
      rw [← hz]
      have HZ := Lib.hid hz; clear hz hge
      go_wp2_with fail
      refine (szPack_any x _ _ _ _ _ hr (Nat.le_trans hhi hbr.size) hz0 hz1).mono ?_
      rintro e w1 ⟨rfl, hb1⟩
      by_cases hn : z - ((bPk x : Nat) : Int) < 0
      · rw [sub0_neg hn]
        have hq1 : (-1 : Int) = q := by rw [← HQ.out, sub0_neg (show k - ((bulkS bPk xs : Nat) : Int) < 0 by have h1 := HST.out; have h2 := HLE.out; have h3 := HZ.out; omega)]
        have HQ1 := Lib.hid hq1; clear hq1 hn
        go_wp2_with fail
        go_ret
        exact ⟨ret_int HQ1.out, below_below hbr hb1⟩
      · rw [sub0_pos (show 0 ≤ z - ((bPk x : Nat) : Int) by omega)]
        have hy : ∃ y : Int, y = z - ((bPk x : Nat) : Int) ∧ 0 ≤ y := ⟨_, rfl, by omega⟩
        obtain ⟨y, hy, hy0⟩ := hy
        rw [← hy]
        have HY := Lib.hid hy; clear hy hn
        go_wp2_with fail
        go_roundw
        case rel => exact ⟨j + 1, by omega, by go_num, by have h1 := HST.out; have h3 := HZ.out; have h4 := HY.out; exact congrArg (Value.int .i64) (by omega), by have h1 := HST.out; have h3 := HZ.out; have h4 := HY.out; omega, below_below hbr hb1⟩
        case measure => simp [intOf]; omega
    · obtain rfl : j = xs.length := by omega
      rw [bulkTo_all] at hge ⊢
      have hz : ∃ z : Int, z = k - ((bulkS bPk xs : Nat) : Int) ∧ 0 ≤ z ∧ z ≤ 1048576 := ⟨_, rfl, hge, by omega⟩
      obtain ⟨z, hz, hz0, hz1⟩ := hz
      rw [← hz]
      have hq1 : z = q := by rw [← HQ.out, sub0_pos hge]; exact hz
      have HQ1 := Lib.hid hq1
      clear hz hge hq1
      go_wp2_with fail
      go_ret
      exact ⟨ret_int HQ1.out, hbr⟩
set_option maxHeartbeats 1000000 in
theorem toPack_any (x : Pk) (v : Value) (w : World) (lo hi : Nat) (h : RItsL w lo hi x.its [v]) (hg : In64 x.no) (hhi : hi ≤ w.heap.size) (hl : bulkS bIt x.its ≤ 1048576) :
    Calls Try.prog 45 #[.agg #[.int .i64 x.no, v]] w fun e w' => ∃ v', e = .returned (.agg #[.int .i64 x.no, v']) ∧ OPk w' w.heap.size w'.heap.size x [.int .i64 x.no, v'] ∧ Below w.heap.size w w' := by
  obtain ⟨A, c, rfl⟩ := RSl.form h
  go_enter Try.func45, Try.ntmps45
  go_wp2_with fail
  have hbw0 : Below w.heap.size w (((w.alloc (.cells #[.int .i64 x.no, .slice A x.its.length c] 75)).alloc (.cells #[.int .i64 0, .slice none 0 0] 37)).alloc (.cells #[.int .i64 x.no, .slice none 0 0] 37)) := below_alloc' (below_alloc' (below_alloc _ _) _) _
  have k0 : Blk (((w.alloc (.cells #[.int .i64 x.no, .slice A x.its.length c] 75)).alloc (.cells #[.int .i64 0, .slice none 0 0] 37)).alloc (.cells #[.int .i64 x.no, .slice none 0 0] 37)) (w.heap.size) 75 #[.int .i64 x.no, .slice A x.its.length c] := by
    have hk := blk_alloc (blk_alloc (Blk.new w 75 #[.int .i64 x.no, .slice A x.its.length c]) (.cells #[.int .i64 0, .slice none 0 0] 37)) (.cells #[.int .i64 x.no, .slice none 0 0] 37)
    exact hk
  have k1 : Blk (((w.alloc (.cells #[.int .i64 x.no, .slice A x.its.length c] 75)).alloc (.cells #[.int .i64 0, .slice none 0 0] 37)).alloc (.cells #[.int .i64 x.no, .slice none 0 0] 37)) (w.heap.size + 1) 37 #[.int .i64 0, .slice none 0 0] := by
    have hk := blk_alloc (Blk.new (w.alloc (.cells #[.int .i64 x.no, .slice A x.its.length c] 75)) 37 #[.int .i64 0, .slice none 0 0]) (.cells #[.int .i64 x.no, .slice none 0 0] 37)
    simp only [World.size_alloc] at hk
    exact hk
  have k2 : Blk (((w.alloc (.cells #[.int .i64 x.no, .slice A x.its.length c] 75)).alloc (.cells #[.int .i64 0, .slice none 0 0] 37)).alloc (.cells #[.int .i64 x.no, .slice none 0 0] 37)) (w.heap.size + 1 + 1) 37 #[.int .i64 x.no, .slice none 0 0] := by
    have hk := Blk.new ((w.alloc (.cells #[.int .i64 x.no, .slice A x.its.length c] 75)).alloc (.cells #[.int .i64 0, .slice none 0 0] 37)) 37 #[.int .i64 x.no, .slice none 0 0]
    simp only [World.size_alloc] at hk
    exact hk
  have hsw0 : w.heap.size + 3 ≤ (((w.alloc (.cells #[.int .i64 x.no, .slice A x.its.length c] 75)).alloc (.cells #[.int .i64 0, .slice none 0 0] 37)).alloc (.cells #[.int .i64 x.no, .slice none 0 0] 37)).heap.size := by simp only [World.size_alloc]; omega
  generalize (((w.alloc (.cells #[.int .i64 x.no, .slice A x.its.length c] 75)).alloc (.cells #[.int .i64 0, .slice none 0 0] 37)).alloc (.cells #[.int .i64 x.no, .slice none 0 0] 37)) = w0 at *
  have ck0 := k0.cell
  have fk0 := k0.frozen
  have ck1 := k1.cell
  have fk1 := k1.frozen
  have ck2 := k2.cell
  have fk2 := k2.frozen
  have hhi0 := Nat.le_trans hhi hbw0.size
  refine (toItemS_any x.its _ _ _ _ (RItsL.loc.below h hbw0 hhi) hhi0 hl).mono ?_
  rintro e w1 ⟨v1, rfl, o1, b1⟩
  replace k0 := blk_keep k0 b1
  replace ck0 := k0.cell
  replace fk0 := k0.frozen
  replace k1 := blk_keep k1 b1
  replace ck1 := k1.cell
  replace fk1 := k1.frozen
  replace k2 := blk_keep k2 b1
  replace ck2 := k2.cell
  replace fk2 := k2.frozen
  obtain ⟨A1, c1, rfl⟩ := o1.form
  have z1 := b1.size
  have HO := Lib.hid o1; clear o1
  go_wp2_with fail
  exact bodyPost_ret (v := .agg #[_, _]) (by simp [results, Try.results45, go_sem, ck1]) rfl ⟨_, rfl, ⟨_, rfl, hg, OIts.tloc.go (fun b hb _ _ => by rw [Below.heap_setCell _ _ _ _ (by dsimp only; omega), Below.heap_setCell _ _ _ _ (by dsimp only; omega), Below.heap_setCell _ _ _ _ (by dsimp only; omega)]) (by omega) (by simp only [World.size_setCell]; exact Nat.le_refl _) HO.out⟩,
    (((hbw0.trans (b1.mono hbw0.size)).setCell (by dsimp only; omega) _).setCell (by dsimp only; omega) _).setCell (by dsimp only; omega) _⟩
theorem info_oPack : (Try.prog.info? 37).map (fun i => (i.zero, i.size, i.bytes)) = some (some (.agg #[.int .i64 0, .slice none 0 0]), 2, 32) := by kernel_rfl
def NewOPack (w : World) (xs : List Pk) (e : Ending) (w' : World) : Prop := ∃ v, e = .returned v ∧ OPks w' w.heap.size w'.heap.size xs [v] ∧ Below w.heap.size w w'
set_option maxHeartbeats 1000000 in
theorem toPackS_any (xs : List Pk) (v : Value) (w : World) (lo hi : Nat) (h : RPksL w lo hi xs [v]) (hhi : hi ≤ w.heap.size) (hl : bulkS bPk xs ≤ 1048576) :
    Calls Try.prog 12 #[v] w (NewOPack w xs) := by
  obtain ⟨A, c, rfl⟩ := h.form
  have hl2 : xs.length ≤ 1048576 := Nat.le_trans bulkS_len hl
  have hmk := make_flat (P := Try.prog) 26 37 (.agg #[.int .i64 0, .slice none 0 0]) 2 32 Try.underlying26 info_oPack xs.length (by omega) (by omega) w
  go_enter Try.func12, Try.ntmps12
  go_wp2_with fail
  go_loopw [4] (fun i wr => ∃ k : Nat, k ≤ xs.length ∧ i = .int .i64 k ∧ ORowP 37 OPk 2 (xs.length * 2) wr w.heap.size w.heap.size wr.heap.size (xs.take k) ∧ Below w.heap.size w wr) (fun i _ => xs.length - (intOf i).toNat)
  case atStart =>
    refine ⟨0, Nat.zero_le _, rfl, ?_, (Below.refl _ _).alloc (Nat.le_refl _) _⟩
    have := ORowP.new 37 OPk 2 w (madeCells #[.int .i64 0, .slice none 0 0] (xs.length * 2))
    rw [size_madeCells] at this
    exact this
  case round =>
    obtain ⟨k, hk, rfl, hp, hb⟩ := hrel
    by_cases hlt : k < xs.length
    · obtain ⟨x, hxk⟩ := some_of_lt hlt
      obtain ⟨b, off, es, rfl, _, hbb, _, ⟨v2, rfl, hgd, hr⟩, hcc⟩ := (RPksL.loc.below h hb hhi).at_ hxk
      obtain ⟨A2, c2, rfl⟩ := RSl.form hr
      have hc0 : wr.cell? ⟨b, off + k * 2, none⟩ = some (.int .i64 x.no) := by simpa using hcc 0 _ rfl
      have hc1 : wr.cell? ⟨b, off + k * 2 + 1, none⟩ = some (.slice A2 x.its.length c2) := by simpa using hcc 1 _ rfl
      clear hcc
      have hnext := take_succ hxk
      have HX := Lib.hid hxk; clear hxk
      have HN := Lib.hid hnext; clear hnext
      go_wp2_with fail
      refine (toPack_any x _ _ _ _ hr hgd (Nat.le_trans hhi hb.size) (Nat.le_trans ((bulkS_mem (f := bPk) (List.mem_of_getElem? HX.out))) hl)).mono ?_
      rintro e w1 ⟨v3, rfl, hy, hb1⟩
      obtain ⟨A3, c3, rfl⟩ : ∃ A c, v3 = .slice A x.its.length c := by
        obtain ⟨v4, e4, _, h4⟩ := hy
        cases e4
        exact ORow.form h4
      have hp1 := hp.chg OPk.tloc hb1 (Nat.le_refl _)
      have hlk : (xs.take k).length = k := by rw [List.length_take, Nat.min_eq_left hk]
      obtain ⟨u0, hold0⟩ := hp1.there (j := k * 2) (by omega)
      obtain ⟨u1, hold1⟩ := hp1.there (j := k * 2 + 1) (by omega)
      have hfz0 := hp1.frozen (k * 2)
      have hfz1 := hp1.frozen (k * 2 + 1)
      have hq := hp1.push2 OPk.tloc (by decide) (y := x) (u0 := .int .i64 x.no) (u1 := .slice A3 x.its.length c3) rfl rfl hb1.size hy (by rw [hlk]; omega)
      rw [hlk, ← HN.out] at hq
      have HQ := Lib.hid hq; clear hq
      have HL := Lib.hid hlk; clear hlk
      go_wp2_with fail
      go_roundw
      case rel => exact ⟨k + 1, by omega, by go_num, by simp only [World.size_setCell]; exact HQ.out, ((hb.trans (hb1.mono hb.size)).setCell (Nat.le_refl _) _).setCell (Nat.le_refl _) _⟩
      case measure => simp [intOf]; omega
    · obtain rfl : k = xs.length := by omega
      rw [List.take_length] at hp
      go_wp2_with fail
      go_ret
      exact ⟨_, rfl, hp.own (by unfold maxLen; omega), hb⟩
theorem eqPack_any (x y : Pk) (v1 v2 : Value) (w : World) (lo hi lo2 hi2 : Nat) (h1 : RItsL w lo hi x.its [v1]) (h2 : RItsL w lo2 hi2 y.its [v2]) (hhi : hi ≤ w.heap.size) (hhi2 : hi2 ≤ w.heap.size) (b : Bool) (hb : b = true ↔ x = y) :
    Calls Try.prog 50 #[.agg #[.int .i64 x.no, v1], .agg #[.int .i64 y.no, v2]] w fun e w' => e = .returned (.bool b) ∧ Below w.heap.size w w' := by
  have HB := Lib.hid hb; clear hb
  obtain ⟨A, c, rfl⟩ := RSl.form h1
  obtain ⟨A2, c2, rfl⟩ := RSl.form h2
  by_cases e0 : x.no = y.no
  · have t0 : (x.no != y.no) = false := by rw [bne_eq_false_iff_eq]; exact e0
    have E0 := Lib.hid e0; clear e0
    by_cases e1 : x.its = y.its
    · have hbt : b = true := HB.out.2 (by cases x; cases y; simp only [Pk.mk.injEq]; exact ⟨E0.out, e1⟩)
      have HT := Lib.hid hbt; clear hbt
      have E1 := Lib.hid e1; clear e1
      go_enter Try.func50, Try.ntmps50
      go_wp2_with fail
      have hbw0 : Below w.heap.size w ((w.alloc (.cells #[.int .i64 x.no, .slice A x.its.length c] 37)).alloc (.cells #[.int .i64 y.no, .slice A2 y.its.length c2] 37)) := below_alloc' (below_alloc _ _) _
      have k0 : Blk ((w.alloc (.cells #[.int .i64 x.no, .slice A x.its.length c] 37)).alloc (.cells #[.int .i64 y.no, .slice A2 y.its.length c2] 37)) (w.heap.size) 37 #[.int .i64 x.no, .slice A x.its.length c] := by
        have hk := blk_alloc (Blk.new w 37 #[.int .i64 x.no, .slice A x.its.length c]) (.cells #[.int .i64 y.no, .slice A2 y.its.length c2] 37)
        exact hk
      have k1 : Blk ((w.alloc (.cells #[.int .i64 x.no, .slice A x.its.length c] 37)).alloc (.cells #[.int .i64 y.no, .slice A2 y.its.length c2] 37)) (w.heap.size + 1) 37 #[.int .i64 y.no, .slice A2 y.its.length c2] := by
        have hk := Blk.new (w.alloc (.cells #[.int .i64 x.no, .slice A x.its.length c] 37)) 37 #[.int .i64 y.no, .slice A2 y.its.length c2]
        simp only [World.size_alloc] at hk
        exact hk
      have hsw0 : w.heap.size + 2 ≤ ((w.alloc (.cells #[.int .i64 x.no, .slice A x.its.length c] 37)).alloc (.cells #[.int .i64 y.no, .slice A2 y.its.length c2] 37)).heap.size := by simp only [World.size_alloc]; omega
      generalize ((w.alloc (.cells #[.int .i64 x.no, .slice A x.its.length c] 37)).alloc (.cells #[.int .i64 y.no, .slice A2 y.its.length c2] 37)) = w0 at *
      have ck0 := k0.cell
      have fk0 := k0.frozen
      have ck1 := k1.cell
      have fk1 := k1.frozen
      refine (eqItemS_any x.its y.its _ _ _ lo hi lo2 hi2 (RItsL.loc.below h1 hbw0 hhi) (RItsL.loc.below h2 hbw0 hhi2) (Nat.le_trans hhi hbw0.size) (Nat.le_trans hhi2 hbw0.size) true (by simp only [true_iff]; exact E1.out)).mono ?_
      rintro e w5 ⟨rfl, b5⟩
      go_wp2_with fail
      go_ret
      exact ⟨ret_bool HT.out.symm, below_below hbw0 b5⟩
    · have hbt : b = false := by rw [← Bool.not_eq_true, HB.out]; rintro rfl; exact e1 rfl
      have HT := Lib.hid hbt; clear hbt
      have E1 := Lib.hid e1; clear e1
      go_enter Try.func50, Try.ntmps50
      go_wp2_with fail
      have hbw0 : Below w.heap.size w ((w.alloc (.cells #[.int .i64 x.no, .slice A x.its.length c] 37)).alloc (.cells #[.int .i64 y.no, .slice A2 y.its.length c2] 37)) := below_alloc' (below_alloc _ _) _
      have k0 : Blk ((w.alloc (.cells #[.int .i64 x.no, .slice A x.its.length c] 37)).alloc (.cells #[.int .i64 y.no, .slice A2 y.its.length c2] 37)) (w.heap.size) 37 #[.int .i64 x.no, .slice A x.its.length c] := by
        have hk := blk_alloc (Blk.new w 37 #[.int .i64 x.no, .slice A x.its.length c]) (.cells #[.int .i64 y.no, .slice A2 y.its.length c2] 37)
        exact hk
      have k1 : Blk ((w.alloc (.cells #[.int .i64 x.no, .slice A x.its.length c] 37)).alloc (.cells #[.int .i64 y.no, .slice A2 y.its.length c2] 37)) (w.heap.size + 1) 37 #[.int .i64 y.no, .slice A2 y.its.length c2] := by
        have hk := Blk.new (w.alloc (.cells #[.int .i64 x.no, .slice A x.its.length c] 37)) 37 #[.int .i64 y.no, .slice A2 y.its.length c2]
        simp only [World.size_alloc] at hk
        exact hk
      have hsw0 : w.heap.size + 2 ≤ ((w.alloc (.cells #[.int .i64 x.no, .slice A x.its.length c] 37)).alloc (.cells #[.int .i64 y.no, .slice A2 y.its.length c2] 37)).heap.size := by simp only [World.size_alloc]; omega
      generalize ((w.alloc (.cells #[.int .i64 x.no, .slice A x.its.length c] 37)).alloc (.cells #[.int .i64 y.no, .slice A2 y.its.length c2] 37)) = w0 at *
      have ck0 := k0.cell
      have fk0 := k0.frozen
      have ck1 := k1.cell
      have fk1 := k1.frozen
      refine (eqItemS_any x.its y.its _ _ _ lo hi lo2 hi2 (RItsL.loc.below h1 hbw0 hhi) (RItsL.loc.below h2 hbw0 hhi2) (Nat.le_trans hhi hbw0.size) (Nat.le_trans hhi2 hbw0.size) false (by simp only [Bool.false_eq_true, false_iff]; exact E1.out)).mono ?_
      rintro e w5 ⟨rfl, b5⟩
      go_wp2_with fail
      go_ret
      exact ⟨ret_bool HT.out.symm, below_below hbw0 b5⟩
  · have t0 : (x.no != y.no) = true := by rw [bne_iff_ne]; exact e0
    have hbf : b = false := by rw [← Bool.not_eq_true, HB.out]; rintro rfl; exact e0 rfl
    have HT := Lib.hid hbf; clear hbf e0
    go_enter Try.func50, Try.ntmps50
    go_wp2_with fail
    go_ret
    exact ⟨ret_bool HT.out.symm, by repeat (first | exact Below.refl _ _ | refine Below.alloc ?_ (by simp) _)⟩
set_option maxHeartbeats 1000000 in
theorem eqPackS_any (xs ys : List Pk) (v1 v2 : Value) (w : World) (lo hi lo' hi' : Nat) (h1 : RPksL w lo hi xs [v1]) (h2 : RPksL w lo' hi' ys [v2]) (hh1 : hi ≤ w.heap.size) (hh2 : hi' ≤ w.heap.size) (b : Bool) (hb : b = true ↔ xs = ys) :
    Calls Try.prog 15 #[v1, v2] w fun e w' => e = .returned (.bool b) ∧ Below w.heap.size w w' := by
  have HB := Lib.hid hb; clear hb
  obtain ⟨A, c, rfl⟩ := h1.form
  obtain ⟨B, d, rfl⟩ := h2.form
  obtain ⟨_, hc, hx⟩ := h1.len_
  unfold maxLen at hx
  by_cases hlen : xs.length = ys.length
  · have t1 : ((xs.length : Int) != ys.length) = false := by rw [bne_eq_false_iff_eq]; omega
    have HL := Lib.hid hlen; clear hlen
    go_enter Try.func15, Try.ntmps15
    go_wp2_with fail
    go_loopw [5] (fun i wr => ∃ k : Nat, k ≤ xs.length ∧ i = .int .i64 k ∧ xs.take k = ys.take k ∧ Below w.heap.size w wr) (fun i _ => xs.length - (intOf i).toNat)
    case atStart => exact ⟨0, Nat.zero_le _, rfl, rfl, Below.refl _ _⟩
    case round =>
      obtain ⟨k, hk, rfl, he, hbr⟩ := hrel
      have HE := Lib.hid he; clear he
      by_cases hlt : k < xs.length
      · obtain ⟨x, hxk⟩ := some_of_lt hlt
        obtain ⟨y, hyk⟩ := some_of_lt (l := ys) (k := k) (by have := HL.out; omega)
        obtain ⟨b1, off, es, rfl, _, hbb, _, ⟨v2, rfl, hg1, hr1⟩, hcc⟩ := (RPksL.loc.below h1 hbr hh1).at_ hxk
        obtain ⟨A2, c2, rfl⟩ := RSl.form hr1
        have hc0 : wr.cell? ⟨b1, off + k * 2, none⟩ = some (.int .i64 x.no) := by simpa using hcc 0 _ rfl
        have hc1 : wr.cell? ⟨b1, off + k * 2 + 1, none⟩ = some (.slice A2 x.its.length c2) := by simpa using hcc 1 _ rfl
        clear hcc
        obtain ⟨b2, off2, es, rfl, _, hbb, _, ⟨v2, rfl, hg2, hr2⟩, hcc⟩ := (RPksL.loc.below h2 hbr hh2).at_ hyk
        obtain ⟨A3, c3, rfl⟩ := RSl.form hr2
        have hd0 : wr.cell? ⟨b2, off2 + k * 2, none⟩ = some (.int .i64 y.no) := by simpa using hcc 0 _ rfl
        have hd1 : wr.cell? ⟨b2, off2 + k * 2 + 1, none⟩ = some (.slice A3 y.its.length c3) := by simpa using hcc 1 _ rfl
        clear hcc
        have hly : (k : Int) < (ys.length : Int) := by have := HL.out; omega
        have HX := Lib.hid hxk; have HY := Lib.hid hyk
        clear hxk hyk
        have HR1 := Lib.hid hr1; clear hr1
        have HR2 := Lib.hid hr2; clear hr2
        have HSR := Lib.hid hbr.size
        by_cases hxy : x = y
        · have HXY := Lib.hid hxy; clear hxy
          go_wp2_with fail
          have past0 := past_cell hc0
          have past1 := past_cell hc1
          have past2 := past_cell hd0
          have past3 := past_cell hd1
          refine region_past (by kernel_rfl) (by kernel_rfl) ?_
          repeat (go_big_quiet_step (first | (go_at_call 50; refine past_call (eqPack_any x y _ _ _ _ _ _ _ (RItsL.loc.below HR1.out (Past.ok _) (Nat.le_trans hh1 HSR.out)) (RItsL.loc.below HR2.out (Past.ok _) (Nat.le_trans hh2 HSR.out)) (Nat.le_trans hh1 (Nat.le_trans HSR.out (Past.ok _).size)) (Nat.le_trans hh2 (Nat.le_trans HSR.out (Past.ok _).size)) true ?_); (simp only [true_iff]; exact HXY.out))))
          refine wpQuiet_nil ?_
          intro wq hw1
          have hq := past_out hw1
          clear hw1 past0 past1 past2 past3
          go_wp2_with fail
          go_roundw
          case rel => first | exact ⟨k + 1, by omega, by go_num, by rw [take_succ HX.out, take_succ HY.out, HE.out, HXY.out], hbr.trans (hq.mono hbr.size)⟩ | ((repeat apply Exists.intro); refine ⟨?_, rfl⟩; exact ⟨k + 1, by omega, by go_num, by rw [take_succ HX.out, take_succ HY.out, HE.out, HXY.out], hbr.trans (hq.mono hbr.size)⟩)
          case measure => simp [intOf]; omega
        · have hf : b = false := by
            rw [← Bool.not_eq_true, HB.out]
            rintro rfl
            exact hxy (Option.some.inj (HX.out.symm.trans HY.out))
          have HF := Lib.hid hf; clear hf
          have HXY := Lib.hid hxy; clear hxy
          go_wp2_with fail
          have past0 := past_cell hc0
          have past1 := past_cell hc1
          have past2 := past_cell hd0
          have past3 := past_cell hd1
          refine region_past (by kernel_rfl) (by kernel_rfl) ?_
          repeat (go_big_quiet_step (first | (go_at_call 50; refine past_call (eqPack_any x y _ _ _ _ _ _ _ (RItsL.loc.below HR1.out (Past.ok _) (Nat.le_trans hh1 HSR.out)) (RItsL.loc.below HR2.out (Past.ok _) (Nat.le_trans hh2 HSR.out)) (Nat.le_trans hh1 (Nat.le_trans HSR.out (Past.ok _).size)) (Nat.le_trans hh2 (Nat.le_trans HSR.out (Past.ok _).size)) false ?_); (simp only [Bool.false_eq_true, false_iff]; exact HXY.out))))
          refine wpQuiet_nil ?_
          intro wq hw1
          have hq := past_out hw1
          clear hw1 past0 past1 past2 past3
          go_wp2_with fail
          go_ret
          exact ⟨ret_bool HF.out.symm, hbr.trans (hq.mono hbr.size)⟩
      · obtain rfl : k = xs.length := by omega
        have ht : b = true := by
          rw [HB.out]
          have := HE.out
          rwa [List.take_length, List.take_of_length_le (by have := HL.out; omega)] at this
        have HF := Lib.hid ht; clear ht
        go_wp2_with fail
        go_ret
        exact ⟨ret_bool HF.out.symm, hbr⟩
  · have t1 : ((xs.length : Int) != ys.length) = true := by rw [bne_iff_ne]; omega
    have hf : b = false := by
      rw [← Bool.not_eq_true, HB.out]
      rintro rfl
      exact hlen rfl
    have HF := Lib.hid hf; clear hf
    have HL := Lib.hid hlen; clear hlen
    go_enter Try.func15, Try.ntmps15
    go_wp2_with fail
    go_ret
    exact ⟨ret_bool HF.out.symm, Below.refl _ _⟩
end Go.Proofs.Ytanppokbjladfaa
