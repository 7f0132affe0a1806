


/- The helpers of the exact laws for Head. -/
import Derived.Test.YtanppokbjladfaaSt
namespace Go.Proofs.Ytanppokbjladfaa
open Go.RowKit

theorem szHeadS_any (m c : Nat) (A : Option Addr) (k : Int) (w : World) (hm : m ≤ 9223372036854775807) (hk : 0 ≤ k) (hk' : k ≤ 1048576) :
    Calls Try.prog 57 #[.slice A m c, .int .i64 k] w fun e w' => e = .returned (.int .i64 (sub0 k m)) ∧ w = w' := by
  by_cases h : k - (m : Int) < 0
  · rw [sub0_neg h]
    go_enter Try.func57, Try.ntmps57
    go_wp2_with fail
    go_ret
    exact ⟨rfl, rfl⟩
  · rw [sub0_pos (show 0 ≤ k - (m : Int) by omega)]
    go_enter Try.func57, Try.ntmps57
    go_wp2_with fail
    go_ret
    exact ⟨rfl, rfl⟩
theorem toHead_any (x : Hd) (w : World) : Calls Try.prog 89 #[.agg #[.int .i64 x.b, .int .i64 x.s]] w fun e w' => e = .returned (.agg #[.int .i64 x.b, .int .i64 x.s]) ∧ Below w.heap.size w w' := by
  go_enter Try.func89, Try.ntmps89
  go_wp2_with fail
  exact bodyPost_ret (v := .agg #[.int .i64 x.b, .int .i64 x.s]) (by simp [results, Try.results89, go_sem]) rfl ⟨rfl, by repeat (first | exact Below.refl _ _ | refine Below.setCell ?_ (by first | (simp; done) | (simp; omega)) _ | refine Below.alloc ?_ (by first | (simp; done) | (simp; omega)) _)⟩
theorem info_oHead : (Try.prog.info? 115).map (fun i => (i.zero, i.size, i.bytes)) = some (some (.agg #[.int .i64 0, .int .i64 0]), 2, 16) := by kernel_rfl
def NewOHead (w : World) (xs : List Hd) (e : Ending) (w' : World) : Prop := ∃ v, e = .returned v ∧ OHds w' w.heap.size w'.heap.size xs [v] ∧ Below w.heap.size w w'
set_option maxHeartbeats 1000000 in
theorem toHeadS_any (xs : List Hd) (v : Value) (w : World) (lo hi : Nat) (h : RHdsL w lo hi xs [v]) (hhi : hi ≤ w.heap.size) (hl : xs.length ≤ 1048576) :
    Calls Try.prog 59 #[v] w (NewOHead w xs) := by
  obtain ⟨A, c, rfl⟩ := h.form
  have hl2 : xs.length ≤ 1048576 := hl
  have hmk := make_flat (P := Try.prog) 54 115 (.agg #[.int .i64 0, .int .i64 0]) 2 16 Try.underlying54 info_oHead xs.length (by omega) (by omega) w
  go_enter Try.func59, Try.ntmps59
  go_wp2_with fail
  go_loopw [4] (fun i wr => ∃ k : Nat, k ≤ xs.length ∧ i = .int .i64 k ∧ ORowP 115 (RFlat FHd) 2 (xs.length * 2) wr w.heap.size w.heap.size wr.heap.size (xs.take k) ∧ Below w.heap.size w wr) (fun i _ => xs.length - (intOf i).toNat)
  case atStart =>
    refine ⟨0, Nat.zero_le _, rfl, ?_, (Below.refl _ _).alloc (Nat.le_refl _) _⟩
    have := ORowP.new 115 (RFlat FHd) 2 w (madeCells #[.int .i64 0, .int .i64 0] (xs.length * 2))
    rw [size_madeCells] at this
    exact this
  case round =>
    obtain ⟨k, hk, rfl, hp, hb⟩ := hrel
    by_cases hlt : k < xs.length
    · obtain ⟨x, hxk⟩ := some_of_lt hlt
      obtain ⟨b, off, es, rfl, _, hbb, _, ⟨rfl, hgd⟩, hcc⟩ := (RHdsL.loc.below h hb hhi).at_ hxk
      have hc0 : wr.cell? ⟨b, off + k * 2, none⟩ = some (.int .i64 x.b) := by simpa using hcc 0 _ rfl
      have hc1 : wr.cell? ⟨b, off + k * 2 + 1, none⟩ = some (.int .i64 x.s) := by simpa using hcc 1 _ rfl
      clear hcc
      have hnext := take_succ hxk
      have HX := Lib.hid hxk; clear hxk
      have HN := Lib.hid hnext; clear hnext
      go_wp2_with fail
      refine (toHead_any x _).mono ?_
      rintro e w1 ⟨rfl, hb1⟩
      have hy : (RFlat FHd) w1 wr.heap.size w1.heap.size x [.int .i64 x.b, .int .i64 x.s] := ⟨rfl, hgd⟩
      have hp1 := hp.chg (RFlat.tloc FHd) hb1 (Nat.le_refl _)
      have hlk : (xs.take k).length = k := by rw [List.length_take, Nat.min_eq_left hk]
      obtain ⟨u0, hold0⟩ := hp1.there (j := k * 2) (by omega)
      obtain ⟨u1, hold1⟩ := hp1.there (j := k * 2 + 1) (by omega)
      have hfz0 := hp1.frozen (k * 2)
      have hfz1 := hp1.frozen (k * 2 + 1)
      have hq := hp1.push2 (RFlat.tloc FHd) (by decide) (y := x) (u0 := .int .i64 x.b) (u1 := .int .i64 x.s) rfl rfl hb1.size hy (by rw [hlk]; omega)
      rw [hlk, ← HN.out] at hq
      have HQ := Lib.hid hq; clear hq
      have HL := Lib.hid hlk; clear hlk
      go_wp2_with fail
      go_roundw
      case rel => exact ⟨k + 1, by omega, by go_num, by simp only [World.size_setCell]; exact HQ.out, ((hb.trans (hb1.mono hb.size)).setCell (Nat.le_refl _) _).setCell (Nat.le_refl _) _⟩
      case measure => simp [intOf]; omega
    · obtain rfl : k = xs.length := by omega
      rw [List.take_length] at hp
      go_wp2_with fail
      go_ret
      exact ⟨_, rfl, hp.own (by unfold maxLen; omega), hb⟩
theorem eqHead_any (x y : Hd) (w : World) (b : Bool) (hb : b = true ↔ x = y) : Calls Try.prog 91 #[.agg #[.int .i64 x.b, .int .i64 x.s], .agg #[.int .i64 y.b, .int .i64 y.s]] w fun e w' => e = .returned (.bool b) ∧ Below w.heap.size w w' := by
  have HB := Lib.hid hb; clear hb
  by_cases e0 : x.b = y.b
  · have t0 : (x.b != y.b) = false := by rw [bne_eq_false_iff_eq]; exact e0
    have E0 := Lib.hid e0; clear e0
    by_cases e1 : x.s = y.s
    · have t1 : (x.s != y.s) = false := by rw [bne_eq_false_iff_eq]; exact e1
      have E1 := Lib.hid e1; clear e1
      have hbt : b = true := HB.out.2 (by cases x; cases y; simp only [Hd.mk.injEq]; exact ⟨E0.out, E1.out⟩)
      have HT := Lib.hid hbt; clear hbt
      go_enter Try.func91, Try.ntmps91
      go_wp2_with fail
      go_ret
      exact ⟨ret_bool HT.out.symm, by repeat (first | exact Below.refl _ _ | refine Below.alloc ?_ (by simp) _)⟩
    · have t1 : (x.s != y.s) = true := by rw [bne_iff_ne]; exact e1
      have hbf : b = false := by rw [← Bool.not_eq_true, HB.out]; rintro rfl; exact e1 rfl
      have HT := Lib.hid hbf; clear hbf e1
      go_enter Try.func91, Try.ntmps91
      go_wp2_with fail
      go_ret
      exact ⟨ret_bool HT.out.symm, by repeat (first | exact Below.refl _ _ | refine Below.alloc ?_ (by simp) _)⟩
  · have t0 : (x.b != y.b) = true := by rw [bne_iff_ne]; exact e0
    have hbf : b = false := by rw [← Bool.not_eq_true, HB.out]; rintro rfl; exact e0 rfl
    have HT := Lib.hid hbf; clear hbf e0
    go_enter Try.func91, Try.ntmps91
    go_wp2_with fail
    go_ret
    exact ⟨ret_bool HT.out.symm, by repeat (first | exact Below.refl _ _ | refine Below.alloc ?_ (by simp) _)⟩
set_option maxHeartbeats 1000000 in
theorem eqHeadS_any (xs ys : List Hd) (v1 v2 : Value) (w : World) (lo hi lo' hi' : Nat) (h1 : RHdsL w lo hi xs [v1]) (h2 : RHdsL w lo' hi' ys [v2]) (hh1 : hi ≤ w.heap.size) (hh2 : hi' ≤ w.heap.size) (b : Bool) (hb : b = true ↔ xs = ys) :
    Calls Try.prog 63 #[v1, v2] w fun e w' => e = .returned (.bool b) ∧ Below w.heap.size w w' := by
  have HB := Lib.hid hb; clear hb
  obtain ⟨A, c, rfl⟩ := h1.form
  obtain ⟨B, d, rfl⟩ := h2.form
  obtain ⟨_, hc, hx⟩ := h1.len_
  unfold maxLen at hx
  by_cases hlen : xs.length = ys.length
  · have t1 : ((xs.length : Int) != ys.length) = false := by rw [bne_eq_false_iff_eq]; omega
    have HL := Lib.hid hlen; clear hlen
    go_enter Try.func63, Try.ntmps63
    go_wp2_with fail
    go_loopw [5] (fun i wr => ∃ k : Nat, k ≤ xs.length ∧ i = .int .i64 k ∧ xs.take k = ys.take k ∧ Below w.heap.size w wr) (fun i _ => xs.length - (intOf i).toNat)
    case atStart => exact ⟨0, Nat.zero_le _, rfl, rfl, Below.refl _ _⟩
    case round =>
      obtain ⟨k, hk, rfl, he, hbr⟩ := hrel
      have HE := Lib.hid he; clear he
      by_cases hlt : k < xs.length
      · obtain ⟨x, hxk⟩ := some_of_lt hlt
        obtain ⟨y, hyk⟩ := some_of_lt (l := ys) (k := k) (by have := HL.out; omega)
        obtain ⟨b1, off, es, rfl, _, hbb, _, ⟨rfl, hg1⟩, hcc⟩ := (RHdsL.loc.below h1 hbr hh1).at_ hxk
        have hc0 : wr.cell? ⟨b1, off + k * 2, none⟩ = some (.int .i64 x.b) := by simpa using hcc 0 _ rfl
        have hc1 : wr.cell? ⟨b1, off + k * 2 + 1, none⟩ = some (.int .i64 x.s) := by simpa using hcc 1 _ rfl
        clear hcc
        obtain ⟨b2, off2, es, rfl, _, hbb, _, ⟨rfl, hg2⟩, hcc⟩ := (RHdsL.loc.below h2 hbr hh2).at_ hyk
        have hd0 : wr.cell? ⟨b2, off2 + k * 2, none⟩ = some (.int .i64 y.b) := by simpa using hcc 0 _ rfl
        have hd1 : wr.cell? ⟨b2, off2 + k * 2 + 1, none⟩ = some (.int .i64 y.s) := by simpa using hcc 1 _ rfl
        clear hcc
        have hly : (k : Int) < (ys.length : Int) := by have := HL.out; omega
        have HX := Lib.hid hxk; have HY := Lib.hid hyk
        clear hxk hyk
        by_cases hxy : x = y
        · have HXY := Lib.hid hxy; clear hxy
          go_wp2_with fail
          have past0 := past_cell hc0
          have past1 := past_cell hc1
          have past2 := past_cell hd0
          have past3 := past_cell hd1
          refine region_past (by kernel_rfl) (by kernel_rfl) ?_
          repeat (go_big_quiet_step (first | (go_at_call 91; refine past_call (eqHead_any x y _ true ?_); (simp only [true_iff]; exact HXY.out))))
          refine wpQuiet_nil ?_
          intro wq hw1
          have hq := past_out hw1
          clear hw1 past0 past1 past2 past3
          go_wp2_with fail
          go_roundw
          case rel => first | exact ⟨k + 1, by omega, by go_num, by rw [take_succ HX.out, take_succ HY.out, HE.out, HXY.out], hbr.trans (hq.mono hbr.size)⟩ | ((repeat apply Exists.intro); refine ⟨?_, rfl⟩; exact ⟨k + 1, by omega, by go_num, by rw [take_succ HX.out, take_succ HY.out, HE.out, HXY.out], hbr.trans (hq.mono hbr.size)⟩)
          case measure => simp [intOf]; omega
        · have hf : b = false := by
            rw [← Bool.not_eq_true, HB.out]
            rintro rfl
            exact hxy (Option.some.inj (HX.out.symm.trans HY.out))
          have HF := Lib.hid hf; clear hf
          have HXY := Lib.hid hxy; clear hxy
          go_wp2_with fail
          have past0 := past_cell hc0
          have past1 := past_cell hc1
          have past2 := past_cell hd0
          have past3 := past_cell hd1
          refine region_past (by kernel_rfl) (by kernel_rfl) ?_
          repeat (go_big_quiet_step (first | (go_at_call 91; refine past_call (eqHead_any x y _ false ?_); (simp only [Bool.false_eq_true, false_iff]; exact HXY.out))))
          refine wpQuiet_nil ?_
          intro wq hw1
          have hq := past_out hw1
          clear hw1 past0 past1 past2 past3
          go_wp2_with fail
          go_ret
          exact ⟨ret_bool HF.out.symm, hbr.trans (hq.mono hbr.size)⟩
      · obtain rfl : k = xs.length := by omega
        have ht : b = true := by
          rw [HB.out]
          have := HE.out
          rwa [List.take_length, List.take_of_length_le (by have := HL.out; omega)] at this
        have HF := Lib.hid ht; clear ht
        go_wp2_with fail
        go_ret
        exact ⟨ret_bool HF.out.symm, hbr⟩
  · have t1 : ((xs.length : Int) != ys.length) = true := by rw [bne_iff_ne]; omega
    have hf : b = false := by
      rw [← Bool.not_eq_true, HB.out]
      rintro rfl
      exact hlen rfl
    have HF := Lib.hid hf; clear hf
    have HL := Lib.hid hlen; clear hlen
    go_enter Try.func63, Try.ntmps63
    go_wp2_with fail
    go_ret
    exact ⟨ret_bool HF.out.symm, Below.refl _ _⟩
end Go.Proofs.Ytanppokbjladfaa
