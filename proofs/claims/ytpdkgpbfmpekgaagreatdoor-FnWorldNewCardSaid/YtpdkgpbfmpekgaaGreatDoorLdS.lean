


/- Stores, told apart by the laws' own eyes. -/
import Derived.Test.YtpdkgpbfmpekgaaGreatDoorGE
namespace Go.Proofs.YtpdkgpbfmpekgaaGreatDoor
open Go.RowKit

theorem ldLog_any (xs ys : List Hd) (v1 v2 : Value) (w : World) (lo hi lo' hi' : Nat) (h1 : RHdsL w lo hi xs [v1]) (h2 : RHdsL w lo' hi' ys [v2]) (hh1 : hi ≤ w.heap.size) (hh2 : hi' ≤ w.heap.size) (b : Bool) (hb : b = true ↔ xs = ys) :
    Calls Tryz.prog 87 #[v1, v2] w fun e w' => e = .returned (.bool b) ∧ Below w.heap.size w w' := by
  have HB := Lib.hid hb; clear hb
  obtain ⟨A, c, rfl⟩ := h1.form
  obtain ⟨B, d, rfl⟩ := h2.form
  obtain ⟨_, hc, hx⟩ := h1.len_
  unfold maxLen at hx
  go_enter Tryz.func87, Tryz.ntmps87
  by_cases hlen : xs.length = ys.length
  · have t1 : ((xs.length : Int) != ys.length) = false := by rw [bne_eq_false_iff_eq]; omega
    have HL := Lib.hid hlen; clear hlen
    go_wp2_with fail
    go_loopw [5] (fun i wr => ∃ k : Nat, k ≤ xs.length ∧ i = .int .i64 k ∧ xs.take k = ys.take k ∧ Below w.heap.size w wr) (fun i _ => xs.length - (intOf i).toNat)
    case atStart => exact ⟨0, Nat.zero_le _, rfl, rfl, Below.refl _ _⟩
    case round =>
      obtain ⟨k, hk, rfl, he, hbr⟩ := hrel
      have HE := Lib.hid he; clear he
      by_cases hlt : k < xs.length
      · obtain ⟨x, hxk⟩ := some_of_lt hlt
        obtain ⟨y, hyk⟩ := some_of_lt (l := ys) (k := k) (by have := HL.out; omega)
        obtain ⟨b1, off, es, rfl, _, hbb, _, ⟨rfl, hg1⟩, hcc⟩ := (RHdsL.loc.below h1 hbr hh1).at_ hxk
        have hc0 : wr.cell? ⟨b1, off + k * 2, none⟩ = some (.int .i64 x.b) := by simpa using hcc 0 _ rfl
        have hc1 : wr.cell? ⟨b1, off + k * 2 + 1, none⟩ = some (.int .i64 x.s) := by simpa using hcc 1 _ rfl
        clear hcc
        obtain ⟨b2, off2, es, rfl, _, hbb, _, ⟨rfl, hg2⟩, hcc⟩ := (RHdsL.loc.below h2 hbr hh2).at_ hyk
        have hd0 : wr.cell? ⟨b2, off2 + k * 2, none⟩ = some (.int .i64 y.b) := by simpa using hcc 0 _ rfl
        have hd1 : wr.cell? ⟨b2, off2 + k * 2 + 1, none⟩ = some (.int .i64 y.s) := by simpa using hcc 1 _ rfl
        clear hcc
        have hly : (k : Int) < (ys.length : Int) := by have := HL.out; omega
        have HX := Lib.hid hxk; have HY := Lib.hid hyk
        clear hxk hyk
        by_cases he1 : x.b = y.b
        · have t2 : (x.b == y.b) = true := beq_iff_eq.2 he1
          by_cases he2 : x.s = y.s
          · have t3 : (x.s == y.s) = true := beq_iff_eq.2 he2
            have hxy : x = y := by cases x; cases y; simp only [Hd.mk.injEq]; exact ⟨he1, he2⟩
            have HXY := Lib.hid hxy; clear hxy he1 he2
            go_wp2_with fail
            go_quiet (fail)
            have hb3 := below_drewN hbr nq
            go_wp2_with fail
            go_roundw
            case rel => first | exact ⟨k + 1, by omega, by go_num, by rw [take_succ HX.out, take_succ HY.out, HE.out, HXY.out], hb3⟩ | ((repeat apply Exists.intro); refine ⟨?_, rfl⟩; exact ⟨k + 1, by omega, by go_num, by rw [take_succ HX.out, take_succ HY.out, HE.out, HXY.out], hb3⟩)
            case measure => simp [intOf]; omega
          · have t3 : (x.s == y.s) = false := beq_eq_false_iff_ne.2 he2
            have hf : b = false := by
              rw [← Bool.not_eq_true, HB.out]
              rintro rfl
              exact he2 (congrArg Hd.s (Option.some.inj (HX.out.symm.trans HY.out)))
            have HF := Lib.hid hf; clear hf
            clear he1 he2
            go_wp2_with fail
            go_quiet (fail)
            go_wp2_with fail
            go_ret
            exact ⟨ret_bool HF.out.symm, below_drewN hbr _⟩
        · have t2 : (x.b == y.b) = false := beq_eq_false_iff_ne.2 he1
          have hf : b = false := by
            rw [← Bool.not_eq_true, HB.out]
            rintro rfl
            exact he1 (congrArg Hd.b (Option.some.inj (HX.out.symm.trans HY.out)))
          have HF := Lib.hid hf; clear hf
          clear he1
          go_wp2_with fail
          go_quiet (fail)
          go_wp2_with fail
          go_ret
          exact ⟨ret_bool HF.out.symm, below_drewN hbr _⟩
      · obtain rfl : k = xs.length := by omega
        have ht : b = true := by
          rw [HB.out]
          have := HE.out
          rwa [List.take_length, List.take_of_length_le (by have := HL.out; omega)] at this
        have HF := Lib.hid ht; clear ht
        go_wp2_with fail
        go_ret
        exact ⟨ret_bool HF.out.symm, hbr⟩
  · have t1 : ((xs.length : Int) != ys.length) = true := by rw [bne_iff_ne]; omega
    have hf : b = false := by
      rw [← Bool.not_eq_true, HB.out]
      rintro rfl
      exact hlen rfl
    have HF := Lib.hid hf; clear hf
    have HL := Lib.hid hlen; clear hlen
    go_wp2_with fail
    go_ret
    exact ⟨ret_bool HF.out.symm, Below.refl _ _⟩
set_option maxHeartbeats 1000000 in
theorem ldPack_any (x y : Pk) (v1 v2 : Value) (w : World) (lo hi lo2 hi2 : Nat) (h1 : RItsL w lo hi x.its [v1]) (h2 : RItsL w lo2 hi2 y.its [v2]) (hhi : hi ≤ w.heap.size) (hhi2 : hi2 ≤ w.heap.size) (b : Bool) (hb : b = true ↔ x = y) :
    Calls Tryz.prog 88 #[.agg #[.int .i64 x.no, v1], .agg #[.int .i64 y.no, v2]] w fun e w' => e = .returned (.bool b) ∧ Below w.heap.size w w' := by
  have HB := Lib.hid hb; clear hb
  obtain ⟨A, c, rfl⟩ := RSl.form h1
  obtain ⟨A2, c2, rfl⟩ := RSl.form h2
  obtain ⟨_, hc, hx⟩ := RSl.len_ h1
  unfold maxLen at hx
  go_enter Tryz.func88, Tryz.ntmps88
  by_cases e0 : x.no = y.no
  · have t0 : (x.no != y.no) = false := by rw [bne_eq_false_iff_eq]; exact e0
    have E0 := Lib.hid e0; clear e0
    by_cases hlen : x.its.length = y.its.length
    · have t1 : ((x.its.length : Int) != y.its.length) = false := by rw [bne_eq_false_iff_eq]; omega
      have HL := Lib.hid hlen; clear hlen
      go_wp2_with fail
      have hbw0 : Below w.heap.size w ((w.alloc (.cells #[.int .i64 x.no, .slice A x.its.length c] 40)).alloc (.cells #[.int .i64 y.no, .slice A2 y.its.length c2] 40)) := below_alloc' (below_alloc _ _) _
      have k0 : Blk ((w.alloc (.cells #[.int .i64 x.no, .slice A x.its.length c] 40)).alloc (.cells #[.int .i64 y.no, .slice A2 y.its.length c2] 40)) (w.heap.size) 40 #[.int .i64 x.no, .slice A x.its.length c] := by
        have hk := blk_alloc (Blk.new w 40 #[.int .i64 x.no, .slice A x.its.length c]) (.cells #[.int .i64 y.no, .slice A2 y.its.length c2] 40)
        exact hk
      have k1 : Blk ((w.alloc (.cells #[.int .i64 x.no, .slice A x.its.length c] 40)).alloc (.cells #[.int .i64 y.no, .slice A2 y.its.length c2] 40)) (w.heap.size + 1) 40 #[.int .i64 y.no, .slice A2 y.its.length c2] := by
        have hk := Blk.new (w.alloc (.cells #[.int .i64 x.no, .slice A x.its.length c] 40)) 40 #[.int .i64 y.no, .slice A2 y.its.length c2]
        simp only [World.size_alloc] at hk
        exact hk
      have hsw0 : w.heap.size + 2 ≤ ((w.alloc (.cells #[.int .i64 x.no, .slice A x.its.length c] 40)).alloc (.cells #[.int .i64 y.no, .slice A2 y.its.length c2] 40)).heap.size := by simp only [World.size_alloc]; omega
      generalize ((w.alloc (.cells #[.int .i64 x.no, .slice A x.its.length c] 40)).alloc (.cells #[.int .i64 y.no, .slice A2 y.its.length c2] 40)) = w0 at *
      have ck0 := k0.cell
      have fk0 := k0.frozen
      have ck1 := k1.cell
      have fk1 := k1.frozen
      go_loopw [5] (fun i wr => ∃ k : Nat, k ≤ x.its.length ∧ i = .int .i64 k ∧ x.its.take k = y.its.take k ∧ Below w0.heap.size w0 wr) (fun i _ => x.its.length - (intOf i).toNat)
      case atStart => exact ⟨0, Nat.zero_le _, rfl, rfl, Below.refl _ _⟩
      case round =>
        obtain ⟨k, hk, rfl, he, hbr⟩ := hrel
        have HE := Lib.hid he; clear he
        replace k0 := blk_keep k0 hbr
        replace ck0 := k0.cell
        replace fk0 := k0.frozen
        replace k1 := blk_keep k1 hbr
        replace ck1 := k1.cell
        replace fk1 := k1.frozen
        have hbw := below_below hbw0 hbr
        by_cases hlt : k < x.its.length
        · obtain ⟨p, hxk⟩ := some_of_lt hlt
          obtain ⟨q, hyk⟩ := some_of_lt (l := y.its) (k := k) (by have := HL.out; omega)
          obtain ⟨b1, off, es, rfl, _, hbb, _, ⟨rfl, hg1⟩, hcc⟩ := (RItsL.loc.below h1 hbw hhi).at_ hxk
          have hc0 : wr.cell? ⟨b1, off + k * 2, none⟩ = some (.int .i64 p.n) := by simpa using hcc 0 _ rfl
          have hc1 : wr.cell? ⟨b1, off + k * 2 + 1, none⟩ = some (.string p.b) := by simpa using hcc 1 _ rfl
          clear hcc
          obtain ⟨b2, off2, es, rfl, _, hbb, _, ⟨rfl, hg2⟩, hcc⟩ := (RItsL.loc.below h2 hbw hhi2).at_ hyk
          have hd0 : wr.cell? ⟨b2, off2 + k * 2, none⟩ = some (.int .i64 q.n) := by simpa using hcc 0 _ rfl
          have hd1 : wr.cell? ⟨b2, off2 + k * 2 + 1, none⟩ = some (.string q.b) := by simpa using hcc 1 _ rfl
          clear hcc
          have hly : (k : Int) < (y.its.length : Int) := by have := HL.out; omega
          have HX := Lib.hid hxk; have HY := Lib.hid hyk
          clear hxk hyk
          by_cases he1 : p.n = q.n
          · have t2 : (p.n == q.n) = true := beq_iff_eq.2 he1
            by_cases he2 : p.b = q.b
            · have t3 : (p.b.toList == q.b.toList) = true := by rw [he2, beq_iff_eq]
              have hxy : p = q := by cases p; cases q; simp only [It.mk.injEq]; exact ⟨he1, he2⟩
              have HXY := Lib.hid hxy; clear hxy he1 he2
              go_wp2_with fail
              go_quiet (fail)
              have hb3 := below_drewN hbr nq
              go_wp2_with fail
              go_roundw
              case rel => first | exact ⟨k + 1, by omega, by go_num, by rw [take_succ HX.out, take_succ HY.out, HE.out, HXY.out], hb3⟩ | ((repeat apply Exists.intro); refine ⟨?_, rfl⟩; exact ⟨k + 1, by omega, by go_num, by rw [take_succ HX.out, take_succ HY.out, HE.out, HXY.out], hb3⟩)
              case measure => simp [intOf]; omega
            · have t3 : (p.b.toList == q.b.toList) = false := str_ne he2
              have hf : b = false := by
                rw [← Bool.not_eq_true, HB.out]
                rintro rfl
                exact he2 (congrArg It.b (Option.some.inj (HX.out.symm.trans HY.out)))
              have HF := Lib.hid hf; clear hf
              clear he1 he2
              go_wp2_with fail
              go_quiet (fail)
              go_wp2_with fail
              go_ret
              exact ⟨ret_bool HF.out.symm, below_drewN hbw _⟩
          · have t2 : (p.n == q.n) = false := beq_eq_false_iff_ne.2 he1
            have hf : b = false := by
              rw [← Bool.not_eq_true, HB.out]
              rintro rfl
              exact he1 (congrArg It.n (Option.some.inj (HX.out.symm.trans HY.out)))
            have HF := Lib.hid hf; clear hf
            clear he1
            go_wp2_with fail
            go_quiet (fail)
            go_wp2_with fail
            go_ret
            exact ⟨ret_bool HF.out.symm, below_drewN hbw _⟩
        · obtain rfl : k = x.its.length := by omega
          have ht : b = true := by
            rw [HB.out]
            have := HE.out
            rw [List.take_length, List.take_of_length_le (by have := HL.out; omega)] at this
            have := E0.out
            cases x; cases y; simp only [Pk.mk.injEq]; exact ⟨by assumption, by assumption⟩
          have HF := Lib.hid ht; clear ht
          go_wp2_with fail
          go_ret
          exact ⟨ret_bool HF.out.symm, hbw⟩
    · have t1 : ((x.its.length : Int) != y.its.length) = true := by rw [bne_iff_ne]; omega
      have hf : b = false := by
        rw [← Bool.not_eq_true, HB.out]
        rintro rfl
        exact hlen rfl
      have HF := Lib.hid hf; clear hf
      have HL := Lib.hid hlen; clear hlen
      go_wp2_with fail
      go_ret
      exact ⟨ret_bool HF.out.symm, by repeat (first | exact Below.refl _ _ | refine Below.alloc ?_ (by simp) _)⟩
  · have t0 : (x.no != y.no) = true := by rw [bne_iff_ne]; exact e0
    have hf : b = false := by
      rw [← Bool.not_eq_true, HB.out]
      rintro rfl
      exact e0 rfl
    have HF := Lib.hid hf; clear hf
    clear e0
    go_wp2_with fail
    go_ret
    exact ⟨ret_bool HF.out.symm, by repeat (first | exact Below.refl _ _ | refine Below.alloc ?_ (by simp) _)⟩
theorem ldInts_b (xs ys : List Int) (v1 v2 : Value) (w : World) (lo hi lo' hi' : Nat) (h1 : RSl RInt 1 w lo hi xs [v1]) (h2 : RSl RInt 1 w lo' hi' ys [v2]) (b : Bool) (hb : b = true ↔ xs = ys) :
    Calls Tryz.prog 41 #[v1, v2] w fun e w' => e = .returned (.bool b) ∧ Below w.heap.size w w' := by
  refine (ldInts_any xs ys v1 v2 w lo hi lo' hi' h1 h2).mono ?_
  rintro e w' ⟨rfl, n, rfl⟩
  refine ⟨ret_bool ?_, below_drewN (Below.refl _ _) _⟩
  cases b
  · rw [decide_eq_false_iff_not, ← hb]; simp
  · rw [decide_eq_true_iff, ← hb]
set_option maxHeartbeats 1000000 in
theorem ldSnap_any (x y : Sn) (v1 v2 : Value) (w : World) (lo hi lo2 hi2 : Nat) (h1 : RLssL w lo hi x.all [v1]) (h2 : RLssL w lo2 hi2 y.all [v2]) (hhi : hi ≤ w.heap.size) (hhi2 : hi2 ≤ w.heap.size) (b : Bool) (hb : b = true ↔ x = y) :
    Calls Tryz.prog 89 #[.agg #[.int .i64 x.no, v1], .agg #[.int .i64 y.no, v2]] w fun e w' => e = .returned (.bool b) ∧ Below w.heap.size w w' := by
  have HB := Lib.hid hb; clear hb
  obtain ⟨A, c, rfl⟩ := RSl.form h1
  obtain ⟨A2, c2, rfl⟩ := RSl.form h2
  obtain ⟨_, hc, hx⟩ := RSl.len_ h1
  unfold maxLen at hx
  go_enter Tryz.func89, Tryz.ntmps89
  by_cases e0 : x.no = y.no
  · have t0 : (x.no != y.no) = false := by rw [bne_eq_false_iff_eq]; exact e0
    have E0 := Lib.hid e0; clear e0
    by_cases hlen : x.all.length = y.all.length
    · have t1 : ((x.all.length : Int) != y.all.length) = false := by rw [bne_eq_false_iff_eq]; omega
      have HL := Lib.hid hlen; clear hlen
      go_wp2_with fail
      have hbw0 : Below w.heap.size w ((w.alloc (.cells #[.int .i64 x.no, .slice A x.all.length c] 35)).alloc (.cells #[.int .i64 y.no, .slice A2 y.all.length c2] 35)) := below_alloc' (below_alloc _ _) _
      have k0 : Blk ((w.alloc (.cells #[.int .i64 x.no, .slice A x.all.length c] 35)).alloc (.cells #[.int .i64 y.no, .slice A2 y.all.length c2] 35)) (w.heap.size) 35 #[.int .i64 x.no, .slice A x.all.length c] := by
        have hk := blk_alloc (Blk.new w 35 #[.int .i64 x.no, .slice A x.all.length c]) (.cells #[.int .i64 y.no, .slice A2 y.all.length c2] 35)
        exact hk
      have k1 : Blk ((w.alloc (.cells #[.int .i64 x.no, .slice A x.all.length c] 35)).alloc (.cells #[.int .i64 y.no, .slice A2 y.all.length c2] 35)) (w.heap.size + 1) 35 #[.int .i64 y.no, .slice A2 y.all.length c2] := by
        have hk := Blk.new (w.alloc (.cells #[.int .i64 x.no, .slice A x.all.length c] 35)) 35 #[.int .i64 y.no, .slice A2 y.all.length c2]
        simp only [World.size_alloc] at hk
        exact hk
      have hsw0 : w.heap.size + 2 ≤ ((w.alloc (.cells #[.int .i64 x.no, .slice A x.all.length c] 35)).alloc (.cells #[.int .i64 y.no, .slice A2 y.all.length c2] 35)).heap.size := by simp only [World.size_alloc]; omega
      generalize ((w.alloc (.cells #[.int .i64 x.no, .slice A x.all.length c] 35)).alloc (.cells #[.int .i64 y.no, .slice A2 y.all.length c2] 35)) = w0 at *
      have ck0 := k0.cell
      have fk0 := k0.frozen
      have ck1 := k1.cell
      have fk1 := k1.frozen
      go_loopw [5] (fun i wr => ∃ k : Nat, k ≤ x.all.length ∧ i = .int .i64 k ∧ x.all.take k = y.all.take k ∧ Below w0.heap.size w0 wr) (fun i _ => x.all.length - (intOf i).toNat)
      case atStart => exact ⟨0, Nat.zero_le _, rfl, rfl, Below.refl _ _⟩
      case round =>
        obtain ⟨k, hk, rfl, he, hbr⟩ := hrel
        have HE := Lib.hid he; clear he
        replace k0 := blk_keep k0 hbr
        replace ck0 := k0.cell
        replace fk0 := k0.frozen
        replace k1 := blk_keep k1 hbr
        replace ck1 := k1.cell
        replace fk1 := k1.frozen
        have hbw := below_below hbw0 hbr
        by_cases hlt : k < x.all.length
        · obtain ⟨p, hxk⟩ := some_of_lt hlt
          obtain ⟨q, hyk⟩ := some_of_lt (l := y.all) (k := k) (by have := HL.out; omega)
          obtain ⟨b1, off, es, rfl, _, hbb, _, ⟨v2, rfl, hg1, hr1⟩, hcc⟩ := (RLssL.loc.below h1 hbw hhi).at_ hxk
          obtain ⟨A3, c3, rfl⟩ := RSl.form hr1
          have hc0 : wr.cell? ⟨b1, off + k * 2, none⟩ = some (.string p.p) := by simpa using hcc 0 _ rfl
          have hc1 : wr.cell? ⟨b1, off + k * 2 + 1, none⟩ = some (.slice A3 p.ns.length c3) := by simpa using hcc 1 _ rfl
          clear hcc
          obtain ⟨b2, off2, es, rfl, _, hbb, _, ⟨v2, rfl, hg2, hr2⟩, hcc⟩ := (RLssL.loc.below h2 hbw hhi2).at_ hyk
          obtain ⟨A4, c4, rfl⟩ := RSl.form hr2
          have hd0 : wr.cell? ⟨b2, off2 + k * 2, none⟩ = some (.string q.p) := by simpa using hcc 0 _ rfl
          have hd1 : wr.cell? ⟨b2, off2 + k * 2 + 1, none⟩ = some (.slice A4 q.ns.length c4) := by simpa using hcc 1 _ rfl
          clear hcc
          have hly : (k : Int) < (y.all.length : Int) := by have := HL.out; omega
          have HX := Lib.hid hxk; have HY := Lib.hid hyk
          have HR1 := Lib.hid hr1; clear hr1
          have HR2 := Lib.hid hr2; clear hr2
          have HSR := Lib.hid hbw.size
          clear hxk hyk
          have f0 := ck0 1
          have g0 := ck1 1
          by_cases he1 : p.p = q.p
          · have t2 : (p.p.toList == q.p.toList) = true := by rw [he1, beq_iff_eq]
            have t2' : (p.p.toList != q.p.toList) = false := by rw [he1, bne_eq_false_iff_eq]
            by_cases he2 : p.ns = q.ns
            · have hxy : p = q := by cases p; cases q; simp only [Ls.mk.injEq]; exact ⟨he1, he2⟩
              have HXY := Lib.hid hxy; have HE2 := Lib.hid he2; clear hxy he1 he2
              go_wp2_with fail
              have past0 := past_cell hc0
              have past1 := past_cell hc1
              have past2 := past_cell hd0
              have past3 := past_cell hd1
              have past4 := past_cell f0
              have past5 := past_cell g0
              refine region_past (by kernel_rfl) (by kernel_rfl) ?_
              repeat (go_big_quiet_step (first | (go_at_call 41; refine past_call (ldInts_b p.ns q.ns _ _ _ _ _ _ _ (RIntsL.loc.below HR1.out (Past.ok _) (Nat.le_trans hhi HSR.out)) (RIntsL.loc.below HR2.out (Past.ok _) (Nat.le_trans hhi2 HSR.out)) true ?_); (simp only [true_iff]; exact HE2.out))))
              refine wpQuiet_nil ?_
              intro wq hw1
              have hq := past_out hw1
              clear hw1 past0 past1 past2 past3 past4 past5
              go_wp2_with fail
              go_roundw
              case rel => first | exact ⟨k + 1, by omega, by go_num, by rw [take_succ HX.out, take_succ HY.out, HE.out, HXY.out], hbr.trans (hq.mono hbr.size)⟩ | ((repeat apply Exists.intro); refine ⟨?_, rfl⟩; exact ⟨k + 1, by omega, by go_num, by rw [take_succ HX.out, take_succ HY.out, HE.out, HXY.out], hbr.trans (hq.mono hbr.size)⟩)
              case measure => simp [intOf]; omega
            · have hf : b = false := by
                rw [← Bool.not_eq_true, HB.out]
                rintro rfl
                exact he2 (congrArg Ls.ns (Option.some.inj (HX.out.symm.trans HY.out)))
              have HF := Lib.hid hf; clear hf
              have HE2 := Lib.hid he2
              clear he1 he2
              go_wp2_with fail
              have past0 := past_cell hc0
              have past1 := past_cell hc1
              have past2 := past_cell hd0
              have past3 := past_cell hd1
              have past4 := past_cell f0
              have past5 := past_cell g0
              refine region_past (by kernel_rfl) (by kernel_rfl) ?_
              repeat (go_big_quiet_step (first | (go_at_call 41; refine past_call (ldInts_b p.ns q.ns _ _ _ _ _ _ _ (RIntsL.loc.below HR1.out (Past.ok _) (Nat.le_trans hhi HSR.out)) (RIntsL.loc.below HR2.out (Past.ok _) (Nat.le_trans hhi2 HSR.out)) false ?_); (simp only [Bool.false_eq_true, false_iff]; exact HE2.out))))
              refine wpQuiet_nil ?_
              intro wq hw1
              have hq := past_out hw1
              clear hw1 past0 past1 past2 past3 past4 past5
              go_wp2_with fail
              go_ret
              exact ⟨ret_bool HF.out.symm, hbw.trans (hq.mono hbw.size)⟩
          · have t2 : (p.p.toList == q.p.toList) = false := str_ne he1
            have t2' : (p.p.toList != q.p.toList) = true := by rw [bne, str_ne he1]; rfl
            have hf : b = false := by
              rw [← Bool.not_eq_true, HB.out]
              rintro rfl
              exact he1 (congrArg Ls.p (Option.some.inj (HX.out.symm.trans HY.out)))
            have HF := Lib.hid hf; clear hf
            clear he1
            go_wp2_with fail
            have past0 := past_cell hc0
            have past1 := past_cell hc1
            have past2 := past_cell hd0
            have past3 := past_cell hd1
            have past4 := past_cell f0
            have past5 := past_cell g0
            refine region_past (by kernel_rfl) (by kernel_rfl) ?_
            repeat (go_big_quiet_step (fail))
            refine wpQuiet_nil ?_
            intro wq hw1
            have hq := past_out hw1
            clear hw1 past0 past1 past2 past3 past4 past5
            go_wp2_with fail
            go_ret
            exact ⟨ret_bool HF.out.symm, hbw.trans (hq.mono hbw.size)⟩
        · obtain rfl : k = x.all.length := by omega
          have ht : b = true := by
            rw [HB.out]
            have := HE.out
            rw [List.take_length, List.take_of_length_le (by have := HL.out; omega)] at this
            have := E0.out
            cases x; cases y; simp only [Sn.mk.injEq]; exact ⟨by assumption, by assumption⟩
          have HF := Lib.hid ht; clear ht
          go_wp2_with fail
          go_ret
          exact ⟨ret_bool HF.out.symm, hbw⟩
    · have t1 : ((x.all.length : Int) != y.all.length) = true := by rw [bne_iff_ne]; omega
      have hf : b = false := by
        rw [← Bool.not_eq_true, HB.out]
        rintro rfl
        exact hlen rfl
      have HF := Lib.hid hf; clear hf
      have HL := Lib.hid hlen; clear hlen
      go_wp2_with fail
      go_ret
      exact ⟨ret_bool HF.out.symm, by repeat (first | exact Below.refl _ _ | refine Below.alloc ?_ (by simp) _)⟩
  · have t0 : (x.no != y.no) = true := by rw [bne_iff_ne]; exact e0
    have hf : b = false := by
      rw [← Bool.not_eq_true, HB.out]
      rintro rfl
      exact e0 rfl
    have HF := Lib.hid hf; clear hf
    clear e0
    go_wp2_with fail
    go_ret
    exact ⟨ret_bool HF.out.symm, by repeat (first | exact Below.refl _ _ | refine Below.alloc ?_ (by simp) _)⟩
set_option maxHeartbeats 4000000 in
theorem ldStore_any (s t : Sto) (va vb vc vd ve vf : Value) (w : World) (lo hi lo2 hi2 : Nat) (hs : RStoL w lo hi s va vb vc) (ht : RStoL w lo2 hi2 t vd ve vf) (hhi : hi ≤ w.heap.size) (hhi2 : hi2 ≤ w.heap.size) (b : Bool) (hb : b = true ↔ s = t) :
    Calls Tryz.prog 29 #[.agg #[va, vb, vc], .agg #[vd, ve, vf]] w fun e w' => e = .returned (.bool b) ∧ Below w.heap.size w w' := by
  have HB := Lib.hid hb; clear hb
  obtain ⟨h1, h2, h3⟩ := hs
  obtain ⟨A, a, rfl⟩ := RSl.form h1
  obtain ⟨B, bb, rfl⟩ := RSl.form h2
  obtain ⟨C, c, rfl⟩ := RSl.form h3
  obtain ⟨g1, g2, g3⟩ := ht
  obtain ⟨A2, a2, rfl⟩ := RSl.form g1
  obtain ⟨B2, b2, rfl⟩ := RSl.form g2
  obtain ⟨C2, c2, rfl⟩ := RSl.form g3
  obtain ⟨_, hc, hx⟩ := RSl.len_ h1
  obtain ⟨_, hc', hx'⟩ := RSl.len_ h2
  unfold maxLen at hx hx'
  go_enter Tryz.func29, Tryz.ntmps29
  by_cases hl1 : s.pk.length = t.pk.length
  · have t1 : ((s.pk.length : Int) != t.pk.length) = false := by rw [bne_eq_false_iff_eq]; omega
    have HLpk := Lib.hid hl1; clear hl1
    by_cases hl2 : s.sn.length = t.sn.length
    · have t2 : ((s.sn.length : Int) != t.sn.length) = false := by rw [bne_eq_false_iff_eq]; omega
      have HLsn := Lib.hid hl2; clear hl2
      go_wp2_with fail
      have hbw0 : Below w.heap.size w ((w.alloc (.cells #[.slice A s.pk.length a, .slice B s.sn.length bb, .slice C s.lg.length c] 27)).alloc (.cells #[.slice A2 t.pk.length a2, .slice B2 t.sn.length b2, .slice C2 t.lg.length c2] 27)) := below_alloc' (below_alloc _ _) _
      have k0 : Blk ((w.alloc (.cells #[.slice A s.pk.length a, .slice B s.sn.length bb, .slice C s.lg.length c] 27)).alloc (.cells #[.slice A2 t.pk.length a2, .slice B2 t.sn.length b2, .slice C2 t.lg.length c2] 27)) (w.heap.size) 27 #[.slice A s.pk.length a, .slice B s.sn.length bb, .slice C s.lg.length c] := by
        have hk := blk_alloc (Blk.new w 27 #[.slice A s.pk.length a, .slice B s.sn.length bb, .slice C s.lg.length c]) (.cells #[.slice A2 t.pk.length a2, .slice B2 t.sn.length b2, .slice C2 t.lg.length c2] 27)
        exact hk
      have k1 : Blk ((w.alloc (.cells #[.slice A s.pk.length a, .slice B s.sn.length bb, .slice C s.lg.length c] 27)).alloc (.cells #[.slice A2 t.pk.length a2, .slice B2 t.sn.length b2, .slice C2 t.lg.length c2] 27)) (w.heap.size + 1) 27 #[.slice A2 t.pk.length a2, .slice B2 t.sn.length b2, .slice C2 t.lg.length c2] := by
        have hk := Blk.new (w.alloc (.cells #[.slice A s.pk.length a, .slice B s.sn.length bb, .slice C s.lg.length c] 27)) 27 #[.slice A2 t.pk.length a2, .slice B2 t.sn.length b2, .slice C2 t.lg.length c2]
        simp only [World.size_alloc] at hk
        exact hk
      have hsw0 : w.heap.size + 2 ≤ ((w.alloc (.cells #[.slice A s.pk.length a, .slice B s.sn.length bb, .slice C s.lg.length c] 27)).alloc (.cells #[.slice A2 t.pk.length a2, .slice B2 t.sn.length b2, .slice C2 t.lg.length c2] 27)).heap.size := by simp only [World.size_alloc]; omega
      generalize ((w.alloc (.cells #[.slice A s.pk.length a, .slice B s.sn.length bb, .slice C s.lg.length c] 27)).alloc (.cells #[.slice A2 t.pk.length a2, .slice B2 t.sn.length b2, .slice C2 t.lg.length c2] 27)) = w0 at *
      have ck0 := k0.cell
      have fk0 := k0.frozen
      have ck1 := k1.cell
      have fk1 := k1.frozen
      by_cases e3 : s.lg = t.lg
      · have E3 := Lib.hid e3; clear e3
        refine (ldLog_any s.lg t.lg _ _ _ lo hi lo2 hi2 (RHdsL.loc.below h3 hbw0 hhi) (RHdsL.loc.below g3 hbw0 hhi2) (Nat.le_trans hhi hbw0.size) (Nat.le_trans hhi2 hbw0.size) true (by simp only [true_iff]; exact E3.out)).mono ?_
        rintro e w1 ⟨rfl, b1⟩
        replace k0 := blk_keep k0 b1
        replace ck0 := k0.cell
        replace fk0 := k0.frozen
        replace k1 := blk_keep k1 b1
        replace ck1 := k1.cell
        replace fk1 := k1.frozen
        replace hbw0 := below_below hbw0 b1
        clear b1
        go_wp2_with fail
        go_loopw [5] (fun i wr => ∃ k : Nat, k ≤ s.pk.length ∧ i = .int .i64 k ∧ s.pk.take k = t.pk.take k ∧ Below w1.heap.size w1 wr) (fun i _ => s.pk.length - (intOf i).toNat)
        case atStart => exact ⟨0, Nat.zero_le _, rfl, rfl, Below.refl _ _⟩
        case round =>
          obtain ⟨k, hk, rfl, he, hbr⟩ := hrel
          have HE := Lib.hid he; clear he
          replace k0 := blk_keep k0 hbr
          replace ck0 := k0.cell
          replace fk0 := k0.frozen
          replace k1 := blk_keep k1 hbr
          replace ck1 := k1.cell
          replace fk1 := k1.frozen
          have hbw := below_below hbw0 hbr
          by_cases hlt : k < s.pk.length
          · obtain ⟨p, hxk⟩ := some_of_lt hlt
            obtain ⟨q, hyk⟩ := some_of_lt (l := t.pk) (k := k) (by have := HLpk.out; omega)
            obtain ⟨b1, off, es, rfl, _, hbb, _, ⟨v2, rfl, hg1, hr1⟩, hcc⟩ := (RPksL.loc.below h1 hbw hhi).at_ hxk
            obtain ⟨A3, c3, rfl⟩ := RSl.form hr1
            have hc0 : wr.cell? ⟨b1, off + k * 2, none⟩ = some (.int .i64 p.no) := by simpa using hcc 0 _ rfl
            have hc1 : wr.cell? ⟨b1, off + k * 2 + 1, none⟩ = some (.slice A3 p.its.length c3) := by simpa using hcc 1 _ rfl
            clear hcc
            obtain ⟨b2, off2, es, rfl, _, hbb, _, ⟨v2, rfl, hg2, hr2⟩, hcc⟩ := (RPksL.loc.below g1 hbw hhi2).at_ hyk
            obtain ⟨A4, c4, rfl⟩ := RSl.form hr2
            have hd0 : wr.cell? ⟨b2, off2 + k * 2, none⟩ = some (.int .i64 q.no) := by simpa using hcc 0 _ rfl
            have hd1 : wr.cell? ⟨b2, off2 + k * 2 + 1, none⟩ = some (.slice A4 q.its.length c4) := by simpa using hcc 1 _ rfl
            clear hcc
            have hly : (k : Int) < (t.pk.length : Int) := by have := HLpk.out; omega
            have HX := Lib.hid hxk; have HY := Lib.hid hyk
            have HR1 := Lib.hid hr1; clear hr1
            have HR2 := Lib.hid hr2; clear hr2
            have HSR := Lib.hid hbw.size
            clear hxk hyk
            have f0 := ck0 0
            have g0 := ck1 0
            by_cases hxy : p = q
            · have HXY := Lib.hid hxy; clear hxy
              go_wp2_with fail
              have past0 := past_cell hc0
              have past1 := past_cell hc1
              have past2 := past_cell hd0
              have past3 := past_cell hd1
              have past4 := past_cell f0
              have past5 := past_cell g0
              refine region_past (by kernel_rfl) (by kernel_rfl) ?_
              repeat (go_big_quiet_step (first | (go_at_call 88; refine past_call (ldPack_any p q _ _ _ _ _ _ _ (RItsL.loc.below HR1.out (Past.ok _) (Nat.le_trans hhi HSR.out)) (RItsL.loc.below HR2.out (Past.ok _) (Nat.le_trans hhi2 HSR.out)) (Nat.le_trans hhi (Nat.le_trans HSR.out (Past.ok _).size)) (Nat.le_trans hhi2 (Nat.le_trans HSR.out (Past.ok _).size)) true ?_); (simp only [true_iff]; exact HXY.out))))
              refine wpQuiet_nil ?_
              intro wq hw1
              have hq := past_out hw1
              clear hw1 past0 past1 past2 past3 past4 past5
              go_wp2_with fail
              go_roundw
              case rel => first | exact ⟨k + 1, by omega, by go_num, by rw [take_succ HX.out, take_succ HY.out, HE.out, HXY.out], hbr.trans (hq.mono hbr.size)⟩ | ((repeat apply Exists.intro); refine ⟨?_, rfl⟩; exact ⟨k + 1, by omega, by go_num, by rw [take_succ HX.out, take_succ HY.out, HE.out, HXY.out], hbr.trans (hq.mono hbr.size)⟩)
              case measure => simp [intOf]; omega
            · have hf : b = false := by
                rw [← Bool.not_eq_true, HB.out]
                rintro rfl
                exact hxy (Option.some.inj (HX.out.symm.trans HY.out))
              have HF := Lib.hid hf; clear hf
              have HXY := Lib.hid hxy; clear hxy
              go_wp2_with fail
              have past0 := past_cell hc0
              have past1 := past_cell hc1
              have past2 := past_cell hd0
              have past3 := past_cell hd1
              have past4 := past_cell f0
              have past5 := past_cell g0
              refine region_past (by kernel_rfl) (by kernel_rfl) ?_
              repeat (go_big_quiet_step (first | (go_at_call 88; refine past_call (ldPack_any p q _ _ _ _ _ _ _ (RItsL.loc.below HR1.out (Past.ok _) (Nat.le_trans hhi HSR.out)) (RItsL.loc.below HR2.out (Past.ok _) (Nat.le_trans hhi2 HSR.out)) (Nat.le_trans hhi (Nat.le_trans HSR.out (Past.ok _).size)) (Nat.le_trans hhi2 (Nat.le_trans HSR.out (Past.ok _).size)) false ?_); (simp only [Bool.false_eq_true, false_iff]; exact HXY.out))))
              refine wpQuiet_nil ?_
              intro wq hw1
              have hq := past_out hw1
              clear hw1 past0 past1 past2 past3 past4 past5
              go_wp2_with fail
              go_ret
              exact ⟨ret_bool HF.out.symm, hbw.trans (hq.mono hbw.size)⟩
          · obtain rfl : k = s.pk.length := by omega
            have heqpk : s.pk = t.pk := by
              have := HE.out
              rwa [List.take_length, List.take_of_length_le (by have := HLpk.out; omega)] at this
            have HEQpk := Lib.hid heqpk; clear heqpk HE hlt hk
            replace hbw0 := hbw
            clear hbw hbr
            go_wp2_with fail
            go_loopw [6] (fun i wy => ∃ k : Nat, k ≤ s.sn.length ∧ i = .int .i64 k ∧ s.sn.take k = t.sn.take k ∧ Below wr.heap.size wr wy) (fun i _ => s.sn.length - (intOf i).toNat)
            case atStart => exact ⟨0, Nat.zero_le _, rfl, rfl, Below.refl _ _⟩
            case round =>
              obtain ⟨k, hk, rfl, he, hbr⟩ := hrel
              have HE := Lib.hid he; clear he
              replace k0 := blk_keep k0 hbr
              replace ck0 := k0.cell
              replace fk0 := k0.frozen
              replace k1 := blk_keep k1 hbr
              replace ck1 := k1.cell
              replace fk1 := k1.frozen
              have hbw := below_below hbw0 hbr
              by_cases hlt : k < s.sn.length
              · obtain ⟨p, hxk⟩ := some_of_lt hlt
                obtain ⟨q, hyk⟩ := some_of_lt (l := t.sn) (k := k) (by have := HLsn.out; omega)
                obtain ⟨b1, off, es, rfl, _, hbb, _, ⟨v2, rfl, hg1, hr1⟩, hcc⟩ := (RSnsL.loc.below h2 hbw hhi).at_ hxk
                obtain ⟨A3, c3, rfl⟩ := RSl.form hr1
                have hc0 : wr.cell? ⟨b1, off + k * 2, none⟩ = some (.int .i64 p.no) := by simpa using hcc 0 _ rfl
                have hc1 : wr.cell? ⟨b1, off + k * 2 + 1, none⟩ = some (.slice A3 p.all.length c3) := by simpa using hcc 1 _ rfl
                clear hcc
                obtain ⟨b2, off2, es, rfl, _, hbb, _, ⟨v2, rfl, hg2, hr2⟩, hcc⟩ := (RSnsL.loc.below g2 hbw hhi2).at_ hyk
                obtain ⟨A4, c4, rfl⟩ := RSl.form hr2
                have hd0 : wr.cell? ⟨b2, off2 + k * 2, none⟩ = some (.int .i64 q.no) := by simpa using hcc 0 _ rfl
                have hd1 : wr.cell? ⟨b2, off2 + k * 2 + 1, none⟩ = some (.slice A4 q.all.length c4) := by simpa using hcc 1 _ rfl
                clear hcc
                have hly : (k : Int) < (t.sn.length : Int) := by have := HLsn.out; omega
                have HX := Lib.hid hxk; have HY := Lib.hid hyk
                have HR1 := Lib.hid hr1; clear hr1
                have HR2 := Lib.hid hr2; clear hr2
                have HSR := Lib.hid hbw.size
                clear hxk hyk
                have f0 := ck0 1
                have g0 := ck1 1
                by_cases hxy : p = q
                · have HXY := Lib.hid hxy; clear hxy
                  go_wp2_with fail
                  have past0 := past_cell hc0
                  have past1 := past_cell hc1
                  have past2 := past_cell hd0
                  have past3 := past_cell hd1
                  have past4 := past_cell f0
                  have past5 := past_cell g0
                  refine region_past (by kernel_rfl) (by kernel_rfl) ?_
                  repeat (go_big_quiet_step (first | (go_at_call 89; refine past_call (ldSnap_any p q _ _ _ _ _ _ _ (RLssL.loc.below HR1.out (Past.ok _) (Nat.le_trans hhi HSR.out)) (RLssL.loc.below HR2.out (Past.ok _) (Nat.le_trans hhi2 HSR.out)) (Nat.le_trans hhi (Nat.le_trans HSR.out (Past.ok _).size)) (Nat.le_trans hhi2 (Nat.le_trans HSR.out (Past.ok _).size)) true ?_); (simp only [true_iff]; exact HXY.out))))
                  refine wpQuiet_nil ?_
                  intro wq hw1
                  have hq := past_out hw1
                  clear hw1 past0 past1 past2 past3 past4 past5
                  go_wp2_with fail
                  go_roundw
                  case rel => first | exact ⟨k + 1, by omega, by go_num, by rw [take_succ HX.out, take_succ HY.out, HE.out, HXY.out], hbr.trans (hq.mono hbr.size)⟩ | ((repeat apply Exists.intro); refine ⟨?_, rfl⟩; exact ⟨k + 1, by omega, by go_num, by rw [take_succ HX.out, take_succ HY.out, HE.out, HXY.out], hbr.trans (hq.mono hbr.size)⟩)
                  case measure => simp [intOf]; omega
                · have hf : b = false := by
                    rw [← Bool.not_eq_true, HB.out]
                    rintro rfl
                    exact hxy (Option.some.inj (HX.out.symm.trans HY.out))
                  have HF := Lib.hid hf; clear hf
                  have HXY := Lib.hid hxy; clear hxy
                  go_wp2_with fail
                  have past0 := past_cell hc0
                  have past1 := past_cell hc1
                  have past2 := past_cell hd0
                  have past3 := past_cell hd1
                  have past4 := past_cell f0
                  have past5 := past_cell g0
                  refine region_past (by kernel_rfl) (by kernel_rfl) ?_
                  repeat (go_big_quiet_step (first | (go_at_call 89; refine past_call (ldSnap_any p q _ _ _ _ _ _ _ (RLssL.loc.below HR1.out (Past.ok _) (Nat.le_trans hhi HSR.out)) (RLssL.loc.below HR2.out (Past.ok _) (Nat.le_trans hhi2 HSR.out)) (Nat.le_trans hhi (Nat.le_trans HSR.out (Past.ok _).size)) (Nat.le_trans hhi2 (Nat.le_trans HSR.out (Past.ok _).size)) false ?_); (simp only [Bool.false_eq_true, false_iff]; exact HXY.out))))
                  refine wpQuiet_nil ?_
                  intro wq hw1
                  have hq := past_out hw1
                  clear hw1 past0 past1 past2 past3 past4 past5
                  go_wp2_with fail
                  go_ret
                  exact ⟨ret_bool HF.out.symm, hbw.trans (hq.mono hbw.size)⟩
              · obtain rfl : k = s.sn.length := by omega
                have heqsn : s.sn = t.sn := by
                  have := HE.out
                  rwa [List.take_length, List.take_of_length_le (by have := HLsn.out; omega)] at this
                have HEQsn := Lib.hid heqsn; clear heqsn HE hlt hk
                replace hbw0 := hbw
                clear hbw hbr
                have ht : b = true := by
                  rw [HB.out]
                  have h1 := HEQpk.out
                  have h2 := HEQsn.out
                  have h3 := E3.out
                  cases s; cases t; simp only [Sto.mk.injEq]; exact ⟨h1, h2, h3⟩
                have HF := Lib.hid ht; clear ht
                go_wp2_with fail
                go_ret
                exact ⟨ret_bool HF.out.symm, hbw0⟩
      · have E3 := Lib.hid e3; clear e3
        refine (ldLog_any s.lg t.lg _ _ _ lo hi lo2 hi2 (RHdsL.loc.below h3 hbw0 hhi) (RHdsL.loc.below g3 hbw0 hhi2) (Nat.le_trans hhi hbw0.size) (Nat.le_trans hhi2 hbw0.size) false (by simp only [Bool.false_eq_true, false_iff]; exact E3.out)).mono ?_
        rintro e w1 ⟨rfl, b1⟩
        have hf : b = false := by
          rw [← Bool.not_eq_true, HB.out]
          rintro rfl
          exact E3.out rfl
        have HF := Lib.hid hf; clear hf
        go_wp2_with fail
        go_ret
        exact ⟨ret_bool HF.out.symm, below_below hbw0 b1⟩
    · have t2 : ((s.sn.length : Int) != t.sn.length) = true := by rw [bne_iff_ne]; omega
      have hf : b = false := by
        rw [← Bool.not_eq_true, HB.out]
        rintro rfl
        exact hl2 rfl
      have HF := Lib.hid hf; clear hf
      clear hl2
      go_wp2_with fail
      go_ret
      exact ⟨ret_bool HF.out.symm, by repeat (first | exact Below.refl _ _ | refine Below.alloc ?_ (by simp) _)⟩
  · have t1 : ((s.pk.length : Int) != t.pk.length) = true := by rw [bne_iff_ne]; omega
    have hf : b = false := by
      rw [← Bool.not_eq_true, HB.out]
      rintro rfl
      exact hl1 rfl
    have HF := Lib.hid hf; clear hf
    clear hl1
    go_wp2_with fail
    go_ret
    exact ⟨ret_bool HF.out.symm, by repeat (first | exact Below.refl _ _ | refine Below.alloc ?_ (by simp) _)⟩
end Go.Proofs.YtpdkgpbfmpekgaaGreatDoor
