


/- The helpers of the exact laws for stores: size, copy, sameness. -/
import Derived.Test.YtanppokbjladfaaEPack
import Derived.Test.YtanppokbjladfaaESnap
import Derived.Test.YtanppokbjladfaaEHead
namespace Go.Proofs.Ytanppokbjladfaa
open Go.RowKit

/-- A store, read. -/
structure RStoL (w : World) (lo hi : Nat) (s : Sto) (va vb vc : Value) : Prop where
  pk : RPksL w lo hi s.pk [va]
  sn : RSnsL w lo hi s.sn [vb]
  lg : RHdsL w lo hi s.lg [vc]
theorem RStoL.below {w w' : World} {lo hi B : Nat} {s : Sto} {va vb vc : Value} (h : RStoL w lo hi s va vb vc) (hb : Below B w w') (hB : hi ≤ B) : RStoL w' lo hi s va vb vc := ⟨RPksL.loc.below h.pk hb hB, RSnsL.loc.below h.sn hb hB, RHdsL.loc.below h.lg hb hB⟩
theorem RStoL.wide {w : World} {lo hi lo' hi' : Nat} {s : Sto} {va vb vc : Value} (h : RStoL w lo hi s va vb vc) (h1 : lo' ≤ lo) (h2 : hi ≤ hi') : RStoL w lo' hi' s va vb vc := ⟨RPksL.loc.wide h.pk h1 h2, RSnsL.loc.wide h.sn h1 h2, RHdsL.loc.wide h.lg h1 h2⟩
/-- A store that is owned: the three rows lie in blocks of different types. -/
structure OSto (w : World) (lo hi : Nat) (s : Sto) (va vb vc : Value) : Prop where
  pk : OPks w lo hi s.pk [va]
  sn : OSns w lo hi s.sn [vb]
  lg : OHds w lo hi s.lg [vc]
theorem OSto.go {w w' : World} {lo hi lo' hi' : Nat} {s : Sto} {va vb vc : Value} (h : OSto w lo hi s va vb vc) (hs : ∀ b, lo ≤ b → b < hi → w'.heap[b]? = w.heap[b]?) (h1 : lo' ≤ lo) (h2 : hi ≤ hi') : OSto w' lo' hi' s va vb vc :=
  ⟨OPks.tloc.loc.go hs h1 h2 h.pk, OSns.tloc.loc.go hs h1 h2 h.sn, OHds.tloc.loc.go hs h1 h2 h.lg⟩
theorem OSto.below {w w' : World} {lo hi B : Nat} {s : Sto} {va vb vc : Value} (h : OSto w lo hi s va vb vc) (hb : Below B w w') (hB : hi ≤ B) : OSto w' lo hi s va vb vc := h.go (fun b _ h2 => hb.block b (by omega)) (Nat.le_refl _) (Nat.le_refl _)
theorem OSto.l {w : World} {lo hi : Nat} {s : Sto} {va vb vc : Value} (h : OSto w lo hi s va vb vc) : RStoL w lo hi s va vb vc := ⟨OPks.l h.pk, OSns.l h.sn, OHds.l h.lg⟩
def bSto (s : Sto) : Nat := bulkS bPk s.pk + bulkS bSn s.sn + s.lg.length

theorem szStore_any (s : Sto) (va vb vc : Value) (k : Int) (w : World) (lo hi : Nat) (h : RStoL w lo hi s va vb vc) (hhi : hi ≤ w.heap.size) (hk : 0 ≤ k) (hk' : k ≤ 1048576) :
    Calls Try.prog 26 #[.agg #[va, vb, vc], .int .i64 k] w fun e w' => e = .returned (.int .i64 (sub0 k (bSto s))) ∧ Below w.heap.size w w' := by
  obtain ⟨h1, h2, h3⟩ := h
  obtain ⟨A, a, rfl⟩ := RSl.form h1
  obtain ⟨B, b, rfl⟩ := RSl.form h2
  obtain ⟨C, c, rfl⟩ := RSl.form h3
  obtain ⟨_, hc, hx⟩ := h3.len_
  unfold maxLen at hx
  generalize hq : sub0 k (bSto s) = q
  unfold bSto at hq
  by_cases e1 : k - ((bulkS bPk s.pk : Nat) : Int) < 0
  · have hs1 := sub0_neg e1
    have hq1 : (-1 : Int) = q := by rw [← hq, sub0_neg (by omega)]
    have HQ := Lib.hid hq1; have HS := Lib.hid hs1
    clear hq hq1 hs1 e1
    go_enter Try.func26, Try.ntmps26
    go_wp2_with fail
    have hbw0 : Below w.heap.size w (w.alloc (.cells #[.slice A s.pk.length a, .slice B s.sn.length b, .slice C s.lg.length c] 50)) := below_alloc _ _
    have k0 : Blk (w.alloc (.cells #[.slice A s.pk.length a, .slice B s.sn.length b, .slice C s.lg.length c] 50)) (w.heap.size) 50 #[.slice A s.pk.length a, .slice B s.sn.length b, .slice C s.lg.length c] := by
      have hk := Blk.new w 50 #[.slice A s.pk.length a, .slice B s.sn.length b, .slice C s.lg.length c]
      exact hk
    have hsw0 : w.heap.size + 1 ≤ (w.alloc (.cells #[.slice A s.pk.length a, .slice B s.sn.length b, .slice C s.lg.length c] 50)).heap.size := by simp only [World.size_alloc]; omega
    generalize (w.alloc (.cells #[.slice A s.pk.length a, .slice B s.sn.length b, .slice C s.lg.length c] 50)) = w0 at *
    have ck0 := k0.cell
    have fk0 := k0.frozen
    refine (szPackS_any s.pk _ k _ lo hi (RPksL.loc.below h1 hbw0 hhi) (Nat.le_trans hhi hbw0.size) hk hk').mono ?_
    rintro e w1 ⟨rfl, b1⟩
    rw [HS.out]
    go_wp2_with fail
    go_ret
    exact ⟨ret_int HQ.out, below_below hbw0 b1⟩
  · obtain ⟨z, hz⟩ : ∃ z : Int, z = k - ((bulkS bPk s.pk : Nat) : Int) := ⟨_, rfl⟩
    have hs1 : sub0 k (bulkS bPk s.pk) = z := by rw [hz]; exact sub0_pos (by omega)
    have HS := Lib.hid hs1; clear hs1
    have hz0 : 0 ≤ z := by omega
    have hz1 : z ≤ 1048576 := by omega
    by_cases e2 : z - ((bulkS bSn s.sn : Nat) : Int) < 0
    · have hs2 := sub0_neg e2
      have hq1 : (-1 : Int) = q := by rw [← hq, sub0_neg (by omega)]
      have HQ := Lib.hid hq1; have HS2 := Lib.hid hs2
      clear hq hq1 hs2 e1 e2 hz
      go_enter Try.func26, Try.ntmps26
      go_wp2_with fail
      have hbw0 : Below w.heap.size w (w.alloc (.cells #[.slice A s.pk.length a, .slice B s.sn.length b, .slice C s.lg.length c] 50)) := below_alloc _ _
      have k0 : Blk (w.alloc (.cells #[.slice A s.pk.length a, .slice B s.sn.length b, .slice C s.lg.length c] 50)) (w.heap.size) 50 #[.slice A s.pk.length a, .slice B s.sn.length b, .slice C s.lg.length c] := by
        have hk := Blk.new w 50 #[.slice A s.pk.length a, .slice B s.sn.length b, .slice C s.lg.length c]
        exact hk
      have hsw0 : w.heap.size + 1 ≤ (w.alloc (.cells #[.slice A s.pk.length a, .slice B s.sn.length b, .slice C s.lg.length c] 50)).heap.size := by simp only [World.size_alloc]; omega
      generalize (w.alloc (.cells #[.slice A s.pk.length a, .slice B s.sn.length b, .slice C s.lg.length c] 50)) = w0 at *
      have ck0 := k0.cell
      have fk0 := k0.frozen
      refine (szPackS_any s.pk _ k _ lo hi (RPksL.loc.below h1 hbw0 hhi) (Nat.le_trans hhi hbw0.size) hk hk').mono ?_
      rintro e w1 ⟨rfl, b1⟩
      rw [HS.out]
      replace k0 := blk_keep k0 b1
      replace ck0 := k0.cell
      replace fk0 := k0.frozen
      replace hbw0 := below_below hbw0 b1
      go_wp2_with fail
      refine (szSnapS_any s.sn _ z _ lo hi (RSnsL.loc.below h2 hbw0 hhi) (Nat.le_trans hhi hbw0.size) hz0 hz1).mono ?_
      rintro e w2 ⟨rfl, b2⟩
      rw [HS2.out]
      go_wp2_with fail
      go_ret
      exact ⟨ret_int HQ.out, below_below hbw0 b2⟩
    · obtain ⟨y, hy⟩ : ∃ y : Int, y = z - ((bulkS bSn s.sn : Nat) : Int) := ⟨_, rfl⟩
      have hs2 : sub0 z (bulkS bSn s.sn) = y := by rw [hy]; exact sub0_pos (by omega)
      have HS2 := Lib.hid hs2; clear hs2
      have hy0 : 0 ≤ y := by omega
      have hy1 : y ≤ 1048576 := by omega
      by_cases e3 : y - (s.lg.length : Int) < 0
      · have hs3 := sub0_neg e3
        have hq1 : (-1 : Int) = q := by rw [← hq, sub0_neg (by omega)]
        have HQ := Lib.hid hq1; have HS3 := Lib.hid hs3
        clear hq hq1 hs3 e1 e2 hz hy e3
        go_enter Try.func26, Try.ntmps26
        go_wp2_with fail
        have hbw0 : Below w.heap.size w (w.alloc (.cells #[.slice A s.pk.length a, .slice B s.sn.length b, .slice C s.lg.length c] 50)) := below_alloc _ _
        have k0 : Blk (w.alloc (.cells #[.slice A s.pk.length a, .slice B s.sn.length b, .slice C s.lg.length c] 50)) (w.heap.size) 50 #[.slice A s.pk.length a, .slice B s.sn.length b, .slice C s.lg.length c] := by
          have hk := Blk.new w 50 #[.slice A s.pk.length a, .slice B s.sn.length b, .slice C s.lg.length c]
          exact hk
        have hsw0 : w.heap.size + 1 ≤ (w.alloc (.cells #[.slice A s.pk.length a, .slice B s.sn.length b, .slice C s.lg.length c] 50)).heap.size := by simp only [World.size_alloc]; omega
        generalize (w.alloc (.cells #[.slice A s.pk.length a, .slice B s.sn.length b, .slice C s.lg.length c] 50)) = w0 at *
        have ck0 := k0.cell
        have fk0 := k0.frozen
        refine (szPackS_any s.pk _ k _ lo hi (RPksL.loc.below h1 hbw0 hhi) (Nat.le_trans hhi hbw0.size) hk hk').mono ?_
        rintro e w1 ⟨rfl, b1⟩
        rw [HS.out]
        replace k0 := blk_keep k0 b1
        replace ck0 := k0.cell
        replace fk0 := k0.frozen
        replace hbw0 := below_below hbw0 b1
        go_wp2_with fail
        refine (szSnapS_any s.sn _ z _ lo hi (RSnsL.loc.below h2 hbw0 hhi) (Nat.le_trans hhi hbw0.size) hz0 hz1).mono ?_
        rintro e w2 ⟨rfl, b2⟩
        rw [HS2.out]
        replace k0 := blk_keep k0 b2
        replace ck0 := k0.cell
        replace fk0 := k0.frozen
        replace hbw0 := below_below hbw0 b2
        go_wp2_with fail
        refine (szHeadS_any s.lg.length c C y _ (by omega) hy0 hy1).mono ?_
        rintro e w3 ⟨rfl, rfl⟩
        rw [HS3.out]
        go_wp2_with fail
        go_ret
        exact ⟨ret_int HQ.out, hbw0⟩
      · obtain ⟨x, hx'⟩ : ∃ x : Int, x = y - (s.lg.length : Int) := ⟨_, rfl⟩
        have hs3 : sub0 y s.lg.length = x := by rw [hx']; exact sub0_pos (by omega)
        have hq1 : x = q := by rw [← hq, sub0_pos (by omega)]; omega
        have hx0 : 0 ≤ x := by omega
        have HQ := Lib.hid hq1; have HS3 := Lib.hid hs3
        clear hq hq1 hs3 e1 e2 hz hy e3 hx'
        go_enter Try.func26, Try.ntmps26
        go_wp2_with fail
        have hbw0 : Below w.heap.size w (w.alloc (.cells #[.slice A s.pk.length a, .slice B s.sn.length b, .slice C s.lg.length c] 50)) := below_alloc _ _
        have k0 : Blk (w.alloc (.cells #[.slice A s.pk.length a, .slice B s.sn.length b, .slice C s.lg.length c] 50)) (w.heap.size) 50 #[.slice A s.pk.length a, .slice B s.sn.length b, .slice C s.lg.length c] := by
          have hk := Blk.new w 50 #[.slice A s.pk.length a, .slice B s.sn.length b, .slice C s.lg.length c]
          exact hk
        have hsw0 : w.heap.size + 1 ≤ (w.alloc (.cells #[.slice A s.pk.length a, .slice B s.sn.length b, .slice C s.lg.length c] 50)).heap.size := by simp only [World.size_alloc]; omega
        generalize (w.alloc (.cells #[.slice A s.pk.length a, .slice B s.sn.length b, .slice C s.lg.length c] 50)) = w0 at *
        have ck0 := k0.cell
        have fk0 := k0.frozen
        refine (szPackS_any s.pk _ k _ lo hi (RPksL.loc.below h1 hbw0 hhi) (Nat.le_trans hhi hbw0.size) hk hk').mono ?_
        rintro e w1 ⟨rfl, b1⟩
        rw [HS.out]
        replace k0 := blk_keep k0 b1
        replace ck0 := k0.cell
        replace fk0 := k0.frozen
        replace hbw0 := below_below hbw0 b1
        go_wp2_with fail
        refine (szSnapS_any s.sn _ z _ lo hi (RSnsL.loc.below h2 hbw0 hhi) (Nat.le_trans hhi hbw0.size) hz0 hz1).mono ?_
        rintro e w2 ⟨rfl, b2⟩
        rw [HS2.out]
        replace k0 := blk_keep k0 b2
        replace ck0 := k0.cell
        replace fk0 := k0.frozen
        replace hbw0 := below_below hbw0 b2
        go_wp2_with fail
        refine (szHeadS_any s.lg.length c C y _ (by omega) hy0 hy1).mono ?_
        rintro e w3 ⟨rfl, rfl⟩
        rw [HS3.out]
        go_wp2_with fail
        go_ret
        exact ⟨ret_int HQ.out, hbw0⟩
def NewSto (w : World) (s : Sto) (e : Ending) (w' : World) : Prop := ∃ va vb vc, e = .returned (.agg #[va, vb, vc]) ∧ OSto w' w.heap.size w'.heap.size s va vb vc ∧ Below w.heap.size w w'
set_option maxHeartbeats 1000000 in
theorem toStore_any (s : Sto) (va vb vc : Value) (w : World) (lo hi : Nat) (h : RStoL w lo hi s va vb vc) (hhi : hi ≤ w.heap.size) (hl : bSto s ≤ 1048576) :
    Calls Try.prog 28 #[.agg #[va, vb, vc]] w (NewSto w s) := by
  obtain ⟨h1, h2, h3⟩ := h
  obtain ⟨A, a, rfl⟩ := RSl.form h1
  obtain ⟨B, b, rfl⟩ := RSl.form h2
  obtain ⟨C, c, rfl⟩ := RSl.form h3
  unfold bSto at hl
  go_enter Try.func28, Try.ntmps28
  go_wp2_with fail
  have hbw0 : Below w.heap.size w (((w.alloc (.cells #[.slice A s.pk.length a, .slice B s.sn.length b, .slice C s.lg.length c] 50)).alloc (.cells #[.slice none 0 0, .slice none 0 0, .slice none 0 0] 56)).alloc (.cells #[.slice none 0 0, .slice none 0 0, .slice none 0 0] 56)) := below_alloc' (below_alloc' (below_alloc _ _) _) _
  have k0 : Blk (((w.alloc (.cells #[.slice A s.pk.length a, .slice B s.sn.length b, .slice C s.lg.length c] 50)).alloc (.cells #[.slice none 0 0, .slice none 0 0, .slice none 0 0] 56)).alloc (.cells #[.slice none 0 0, .slice none 0 0, .slice none 0 0] 56)) (w.heap.size) 50 #[.slice A s.pk.length a, .slice B s.sn.length b, .slice C s.lg.length c] := by
    have hk := blk_alloc (blk_alloc (Blk.new w 50 #[.slice A s.pk.length a, .slice B s.sn.length b, .slice C s.lg.length c]) (.cells #[.slice none 0 0, .slice none 0 0, .slice none 0 0] 56)) (.cells #[.slice none 0 0, .slice none 0 0, .slice none 0 0] 56)
    exact hk
  have k1 : Blk (((w.alloc (.cells #[.slice A s.pk.length a, .slice B s.sn.length b, .slice C s.lg.length c] 50)).alloc (.cells #[.slice none 0 0, .slice none 0 0, .slice none 0 0] 56)).alloc (.cells #[.slice none 0 0, .slice none 0 0, .slice none 0 0] 56)) (w.heap.size + 1) 56 #[.slice none 0 0, .slice none 0 0, .slice none 0 0] := by
    have hk := blk_alloc (Blk.new (w.alloc (.cells #[.slice A s.pk.length a, .slice B s.sn.length b, .slice C s.lg.length c] 50)) 56 #[.slice none 0 0, .slice none 0 0, .slice none 0 0]) (.cells #[.slice none 0 0, .slice none 0 0, .slice none 0 0] 56)
    simp only [World.size_alloc] at hk
    exact hk
  have k2 : Blk (((w.alloc (.cells #[.slice A s.pk.length a, .slice B s.sn.length b, .slice C s.lg.length c] 50)).alloc (.cells #[.slice none 0 0, .slice none 0 0, .slice none 0 0] 56)).alloc (.cells #[.slice none 0 0, .slice none 0 0, .slice none 0 0] 56)) (w.heap.size + 1 + 1) 56 #[.slice none 0 0, .slice none 0 0, .slice none 0 0] := by
    have hk := Blk.new ((w.alloc (.cells #[.slice A s.pk.length a, .slice B s.sn.length b, .slice C s.lg.length c] 50)).alloc (.cells #[.slice none 0 0, .slice none 0 0, .slice none 0 0] 56)) 56 #[.slice none 0 0, .slice none 0 0, .slice none 0 0]
    simp only [World.size_alloc] at hk
    exact hk
  have hsw0 : w.heap.size + 3 ≤ (((w.alloc (.cells #[.slice A s.pk.length a, .slice B s.sn.length b, .slice C s.lg.length c] 50)).alloc (.cells #[.slice none 0 0, .slice none 0 0, .slice none 0 0] 56)).alloc (.cells #[.slice none 0 0, .slice none 0 0, .slice none 0 0] 56)).heap.size := by simp only [World.size_alloc]; omega
  generalize (((w.alloc (.cells #[.slice A s.pk.length a, .slice B s.sn.length b, .slice C s.lg.length c] 50)).alloc (.cells #[.slice none 0 0, .slice none 0 0, .slice none 0 0] 56)).alloc (.cells #[.slice none 0 0, .slice none 0 0, .slice none 0 0] 56)) = w0 at *
  have ck0 := k0.cell
  have fk0 := k0.frozen
  have ck1 := k1.cell
  have fk1 := k1.frozen
  have ck2 := k2.cell
  have fk2 := k2.frozen
  refine (toPackS_any s.pk _ _ lo hi (RPksL.loc.below h1 hbw0 hhi) (Nat.le_trans hhi hbw0.size) (by omega)).mono ?_
  rintro e w1 ⟨v1, rfl, o1, b1⟩
  replace k0 := blk_keep k0 b1
  replace ck0 := k0.cell
  replace fk0 := k0.frozen
  replace k1 := blk_keep k1 b1
  replace ck1 := k1.cell
  replace fk1 := k1.frozen
  replace k2 := blk_keep k2 b1
  replace ck2 := k2.cell
  replace fk2 := k2.frozen
  obtain ⟨A1, a1, rfl⟩ := o1.form
  have z1 := b1.size
  have HO1 := Lib.hid o1; clear o1
  go_wp2_with fail
  replace hbw0 := (below_below hbw0 b1).setCell (p := ⟨w.heap.size + 1 + 1, 0, none⟩) (by dsimp only; omega) (.slice A1 s.pk.length a1)
  have HE1 := Lib.hid (fun b (hb : w0.heap.size ≤ b) => Below.heap_setCell w1 ⟨w.heap.size + 1 + 1, 0, none⟩ (.slice A1 s.pk.length a1) b (by dsimp only; omega))
  replace k2 := k2.set_ 0 (.slice A1 s.pk.length a1)
  simp only [List.setIfInBounds_toArray, List.set_cons_zero, List.set_cons_succ] at k2
  replace k0 := blk_ne k0 (p := ⟨w.heap.size + 1 + 1, 0, none⟩) (.slice A1 s.pk.length a1) (by first | (dsimp only; omega) | (simp; done) | (simp; omega))
  replace k1 := blk_ne k1 (p := ⟨w.heap.size + 1 + 1, 0, none⟩) (.slice A1 s.pk.length a1) (by first | (dsimp only; omega) | (simp; done) | (simp; omega))
  have hsw2 : w1.heap.size ≤ (w1.setCell ⟨w.heap.size + 1 + 1, 0, none⟩ (.slice A1 s.pk.length a1)).heap.size := by simp only [World.size_setCell]; exact Nat.le_refl _
  generalize w1.setCell ⟨w.heap.size + 1 + 1, 0, none⟩ (.slice A1 s.pk.length a1) = w2 at *
  replace ck2 := k2.cell
  replace fk2 := k2.frozen
  replace ck0 := k0.cell
  replace fk0 := k0.frozen
  replace ck1 := k1.cell
  replace fk1 := k1.frozen
  have HP1 : Hid (OPks w2 w0.heap.size w1.heap.size s.pk [.slice A1 s.pk.length a1]) := Lib.hid (OPks.tloc.loc.go (fun b hb _ => HE1.out b hb) (Nat.le_refl _) (Nat.le_refl _) HO1.out)
  clear HO1 HE1
  refine (toSnapS_any s.sn _ _ lo hi (RSnsL.loc.below h2 hbw0 hhi) (Nat.le_trans hhi hbw0.size) (by omega)).mono ?_
  rintro e w3 ⟨v3, rfl, o3, b3⟩
  replace k0 := blk_keep k0 b3
  replace ck0 := k0.cell
  replace fk0 := k0.frozen
  replace k1 := blk_keep k1 b3
  replace ck1 := k1.cell
  replace fk1 := k1.frozen
  replace k2 := blk_keep k2 b3
  replace ck2 := k2.cell
  replace fk2 := k2.frozen
  obtain ⟨A3, a3, rfl⟩ := o3.form
  have z3 := b3.size
  have HO3 := Lib.hid o3; clear o3
  have HQ1 := Lib.hid (OPks.tloc.below HP1.out b3 hsw2)
  clear HP1
  go_wp2_with fail
  replace hbw0 := (below_below hbw0 b3).setCell (p := ⟨w.heap.size + 1 + 1, 1, none⟩) (by dsimp only; omega) (.slice A3 s.sn.length a3)
  have HE3 := Lib.hid (fun b (hb : w0.heap.size ≤ b) => Below.heap_setCell w3 ⟨w.heap.size + 1 + 1, 1, none⟩ (.slice A3 s.sn.length a3) b (by dsimp only; omega))
  replace k2 := k2.set_ 1 (.slice A3 s.sn.length a3)
  simp only [List.setIfInBounds_toArray, List.set_cons_zero, List.set_cons_succ] at k2
  replace k0 := blk_ne k0 (p := ⟨w.heap.size + 1 + 1, 1, none⟩) (.slice A3 s.sn.length a3) (by first | (dsimp only; omega) | (simp; done) | (simp; omega))
  replace k1 := blk_ne k1 (p := ⟨w.heap.size + 1 + 1, 1, none⟩) (.slice A3 s.sn.length a3) (by first | (dsimp only; omega) | (simp; done) | (simp; omega))
  have hsw4 : w3.heap.size ≤ (w3.setCell ⟨w.heap.size + 1 + 1, 1, none⟩ (.slice A3 s.sn.length a3)).heap.size := by simp only [World.size_setCell]; exact Nat.le_refl _
  generalize w3.setCell ⟨w.heap.size + 1 + 1, 1, none⟩ (.slice A3 s.sn.length a3) = w4 at *
  replace ck2 := k2.cell
  replace fk2 := k2.frozen
  replace ck0 := k0.cell
  replace fk0 := k0.frozen
  replace ck1 := k1.cell
  replace fk1 := k1.frozen
  have HP1 : Hid (OPks w4 w0.heap.size w1.heap.size s.pk [.slice A1 s.pk.length a1]) := Lib.hid (OPks.tloc.loc.go (fun b hb _ => HE3.out b hb) (Nat.le_refl _) (Nat.le_refl _) HQ1.out)
  have HP3 : Hid (OSns w4 w2.heap.size w3.heap.size s.sn [.slice A3 s.sn.length a3]) := Lib.hid (OSns.tloc.loc.go (fun b hb _ => HE3.out b (by omega)) (Nat.le_refl _) (Nat.le_refl _) HO3.out)
  clear HO3 HE3 HQ1
  refine (toHeadS_any s.lg _ _ lo hi (RHdsL.loc.below h3 hbw0 hhi) (Nat.le_trans hhi hbw0.size) (by omega)).mono ?_
  rintro e w5 ⟨v5, rfl, o5, b5⟩
  replace k0 := blk_keep k0 b5
  replace ck0 := k0.cell
  replace fk0 := k0.frozen
  replace k1 := blk_keep k1 b5
  replace ck1 := k1.cell
  replace fk1 := k1.frozen
  replace k2 := blk_keep k2 b5
  replace ck2 := k2.cell
  replace fk2 := k2.frozen
  obtain ⟨A5, a5, rfl⟩ := o5.form
  have z5 := b5.size
  have HO5 := Lib.hid o5; clear o5
  have HQ1 := Lib.hid (OPks.tloc.below HP1.out b5 (by omega))
  have HQ3 := Lib.hid (OSns.tloc.below HP3.out b5 (by omega))
  clear HP1 HP3
  go_wp2_with fail
  have hke : ∀ (u0 u1 u2 u3 : Value) (b : Nat), w0.heap.size ≤ b → ((((w5.setCell ⟨w.heap.size + 1 + 1, 2, none⟩ u0).setCell ⟨w.heap.size + 1, 0, none⟩ u1).setCell ⟨w.heap.size + 1, 1, none⟩ u2).setCell ⟨w.heap.size + 1, 2, none⟩ u3).heap[b]? = w5.heap[b]? := fun u0 u1 u2 u3 b hb => by
    rw [Below.heap_setCell _ _ _ _ (by dsimp only; omega), Below.heap_setCell _ _ _ _ (by dsimp only; omega), Below.heap_setCell _ _ _ _ (by dsimp only; omega), Below.heap_setCell _ _ _ _ (by dsimp only; omega)]
  exact bodyPost_ret (v := .agg #[_, _, _]) (by simp [results, Try.results28, go_sem, ck1]) rfl ⟨_, _, _, rfl,
    ⟨OPks.tloc.loc.go (fun b hb _ => hke _ _ _ _ b hb) (by omega) (by simp only [World.size_setCell]; omega) HQ1.out, OSns.tloc.loc.go (fun b hb _ => hke _ _ _ _ b (by omega)) (by omega) (by simp only [World.size_setCell]; omega) HQ3.out, OHds.tloc.loc.go (fun b hb _ => hke _ _ _ _ b (by omega)) (by omega) (by simp only [World.size_setCell]; exact Nat.le_refl _) HO5.out⟩,
    ((((below_below hbw0 b5).setCell (by dsimp only; omega) _).setCell (by dsimp only; omega) _).setCell (by dsimp only; omega) _).setCell (by dsimp only; omega) _⟩
set_option maxHeartbeats 1000000 in
theorem eqStore_any (s t : Sto) (va vb vc vd ve vf : Value) (w : World) (lo hi lo2 hi2 : Nat) (hs : RStoL w lo hi s va vb vc) (ht : RStoL w lo2 hi2 t vd ve vf) (hhi : hi ≤ w.heap.size) (hhi2 : hi2 ≤ w.heap.size) (q : Bool) (hq : q = true ↔ s = t) :
    Calls Try.prog 30 #[.agg #[va, vb, vc], .agg #[vd, ve, vf]] w fun e w' => e = .returned (.bool q) ∧ Below w.heap.size w w' := by
  have HB := Lib.hid hq; clear hq
  obtain ⟨h1, h2, h3⟩ := hs
  obtain ⟨A, a, rfl⟩ := RSl.form h1
  obtain ⟨B, b, rfl⟩ := RSl.form h2
  obtain ⟨C, c, rfl⟩ := RSl.form h3
  obtain ⟨g1, g2, g3⟩ := ht
  obtain ⟨A2, a2, rfl⟩ := RSl.form g1
  obtain ⟨B2, b2, rfl⟩ := RSl.form g2
  obtain ⟨C2, c2, rfl⟩ := RSl.form g3
  by_cases e1 : s.pk = t.pk
  · have E1 := Lib.hid e1; clear e1
    by_cases e2 : s.sn = t.sn
    · have E2 := Lib.hid e2; clear e2
      by_cases e3 : s.lg = t.lg
      · have hbt : q = true := HB.out.2 (by cases s; cases t; simp only [Sto.mk.injEq]; exact ⟨E1.out, E2.out, e3⟩)
        have HT := Lib.hid hbt; clear hbt
        have E3 := Lib.hid e3; clear e3
        go_enter Try.func30, Try.ntmps30
        go_wp2_with fail
        have hbw0 : Below w.heap.size w ((w.alloc (.cells #[.slice A s.pk.length a, .slice B s.sn.length b, .slice C s.lg.length c] 56)).alloc (.cells #[.slice A2 t.pk.length a2, .slice B2 t.sn.length b2, .slice C2 t.lg.length c2] 56)) := below_alloc' (below_alloc _ _) _
        have k0 : Blk ((w.alloc (.cells #[.slice A s.pk.length a, .slice B s.sn.length b, .slice C s.lg.length c] 56)).alloc (.cells #[.slice A2 t.pk.length a2, .slice B2 t.sn.length b2, .slice C2 t.lg.length c2] 56)) (w.heap.size) 56 #[.slice A s.pk.length a, .slice B s.sn.length b, .slice C s.lg.length c] := by
          have hk := blk_alloc (Blk.new w 56 #[.slice A s.pk.length a, .slice B s.sn.length b, .slice C s.lg.length c]) (.cells #[.slice A2 t.pk.length a2, .slice B2 t.sn.length b2, .slice C2 t.lg.length c2] 56)
          exact hk
        have k1 : Blk ((w.alloc (.cells #[.slice A s.pk.length a, .slice B s.sn.length b, .slice C s.lg.length c] 56)).alloc (.cells #[.slice A2 t.pk.length a2, .slice B2 t.sn.length b2, .slice C2 t.lg.length c2] 56)) (w.heap.size + 1) 56 #[.slice A2 t.pk.length a2, .slice B2 t.sn.length b2, .slice C2 t.lg.length c2] := by
          have hk := Blk.new (w.alloc (.cells #[.slice A s.pk.length a, .slice B s.sn.length b, .slice C s.lg.length c] 56)) 56 #[.slice A2 t.pk.length a2, .slice B2 t.sn.length b2, .slice C2 t.lg.length c2]
          simp only [World.size_alloc] at hk
          exact hk
        have hsw0 : w.heap.size + 2 ≤ ((w.alloc (.cells #[.slice A s.pk.length a, .slice B s.sn.length b, .slice C s.lg.length c] 56)).alloc (.cells #[.slice A2 t.pk.length a2, .slice B2 t.sn.length b2, .slice C2 t.lg.length c2] 56)).heap.size := by simp only [World.size_alloc]; omega
        generalize ((w.alloc (.cells #[.slice A s.pk.length a, .slice B s.sn.length b, .slice C s.lg.length c] 56)).alloc (.cells #[.slice A2 t.pk.length a2, .slice B2 t.sn.length b2, .slice C2 t.lg.length c2] 56)) = w0 at *
        have ck0 := k0.cell
        have fk0 := k0.frozen
        have ck1 := k1.cell
        have fk1 := k1.frozen
        refine (eqPackS_any s.pk t.pk _ _ _ lo hi lo2 hi2 (RPksL.loc.below h1 hbw0 hhi) (RPksL.loc.below g1 hbw0 hhi2) (Nat.le_trans hhi hbw0.size) (Nat.le_trans hhi2 hbw0.size) true (by simp only [true_iff]; exact E1.out)).mono ?_
        rintro e w1 ⟨rfl, b1⟩
        replace k0 := blk_keep k0 b1
        replace ck0 := k0.cell
        replace fk0 := k0.frozen
        replace k1 := blk_keep k1 b1
        replace ck1 := k1.cell
        replace fk1 := k1.frozen
        replace hbw0 := below_below hbw0 b1
        go_wp2_with fail
        refine (eqSnapS_any s.sn t.sn _ _ _ lo hi lo2 hi2 (RSnsL.loc.below h2 hbw0 hhi) (RSnsL.loc.below g2 hbw0 hhi2) (Nat.le_trans hhi hbw0.size) (Nat.le_trans hhi2 hbw0.size) true (by simp only [true_iff]; exact E2.out)).mono ?_
        rintro e w2 ⟨rfl, b2⟩
        replace k0 := blk_keep k0 b2
        replace ck0 := k0.cell
        replace fk0 := k0.frozen
        replace k1 := blk_keep k1 b2
        replace ck1 := k1.cell
        replace fk1 := k1.frozen
        replace hbw0 := below_below hbw0 b2
        go_wp2_with fail
        refine (eqHeadS_any s.lg t.lg _ _ _ lo hi lo2 hi2 (RHdsL.loc.below h3 hbw0 hhi) (RHdsL.loc.below g3 hbw0 hhi2) (Nat.le_trans hhi hbw0.size) (Nat.le_trans hhi2 hbw0.size) true (by simp only [true_iff]; exact E3.out)).mono ?_
        rintro e w3 ⟨rfl, b3⟩
        replace hbw0 := below_below hbw0 b3
        go_wp2_with fail
        go_ret
        exact ⟨ret_bool HT.out.symm, hbw0⟩
      · have hbf : q = false := by rw [← Bool.not_eq_true, HB.out]; rintro rfl; exact e3 rfl
        have HT := Lib.hid hbf; clear hbf
        have E3 := Lib.hid e3; clear e3
        go_enter Try.func30, Try.ntmps30
        go_wp2_with fail
        have hbw0 : Below w.heap.size w ((w.alloc (.cells #[.slice A s.pk.length a, .slice B s.sn.length b, .slice C s.lg.length c] 56)).alloc (.cells #[.slice A2 t.pk.length a2, .slice B2 t.sn.length b2, .slice C2 t.lg.length c2] 56)) := below_alloc' (below_alloc _ _) _
        have k0 : Blk ((w.alloc (.cells #[.slice A s.pk.length a, .slice B s.sn.length b, .slice C s.lg.length c] 56)).alloc (.cells #[.slice A2 t.pk.length a2, .slice B2 t.sn.length b2, .slice C2 t.lg.length c2] 56)) (w.heap.size) 56 #[.slice A s.pk.length a, .slice B s.sn.length b, .slice C s.lg.length c] := by
          have hk := blk_alloc (Blk.new w 56 #[.slice A s.pk.length a, .slice B s.sn.length b, .slice C s.lg.length c]) (.cells #[.slice A2 t.pk.length a2, .slice B2 t.sn.length b2, .slice C2 t.lg.length c2] 56)
          exact hk
        have k1 : Blk ((w.alloc (.cells #[.slice A s.pk.length a, .slice B s.sn.length b, .slice C s.lg.length c] 56)).alloc (.cells #[.slice A2 t.pk.length a2, .slice B2 t.sn.length b2, .slice C2 t.lg.length c2] 56)) (w.heap.size + 1) 56 #[.slice A2 t.pk.length a2, .slice B2 t.sn.length b2, .slice C2 t.lg.length c2] := by
          have hk := Blk.new (w.alloc (.cells #[.slice A s.pk.length a, .slice B s.sn.length b, .slice C s.lg.length c] 56)) 56 #[.slice A2 t.pk.length a2, .slice B2 t.sn.length b2, .slice C2 t.lg.length c2]
          simp only [World.size_alloc] at hk
          exact hk
        have hsw0 : w.heap.size + 2 ≤ ((w.alloc (.cells #[.slice A s.pk.length a, .slice B s.sn.length b, .slice C s.lg.length c] 56)).alloc (.cells #[.slice A2 t.pk.length a2, .slice B2 t.sn.length b2, .slice C2 t.lg.length c2] 56)).heap.size := by simp only [World.size_alloc]; omega
        generalize ((w.alloc (.cells #[.slice A s.pk.length a, .slice B s.sn.length b, .slice C s.lg.length c] 56)).alloc (.cells #[.slice A2 t.pk.length a2, .slice B2 t.sn.length b2, .slice C2 t.lg.length c2] 56)) = w0 at *
        have ck0 := k0.cell
        have fk0 := k0.frozen
        have ck1 := k1.cell
        have fk1 := k1.frozen
        refine (eqPackS_any s.pk t.pk _ _ _ lo hi lo2 hi2 (RPksL.loc.below h1 hbw0 hhi) (RPksL.loc.below g1 hbw0 hhi2) (Nat.le_trans hhi hbw0.size) (Nat.le_trans hhi2 hbw0.size) true (by simp only [true_iff]; exact E1.out)).mono ?_
        rintro e w1 ⟨rfl, b1⟩
        replace k0 := blk_keep k0 b1
        replace ck0 := k0.cell
        replace fk0 := k0.frozen
        replace k1 := blk_keep k1 b1
        replace ck1 := k1.cell
        replace fk1 := k1.frozen
        replace hbw0 := below_below hbw0 b1
        go_wp2_with fail
        refine (eqSnapS_any s.sn t.sn _ _ _ lo hi lo2 hi2 (RSnsL.loc.below h2 hbw0 hhi) (RSnsL.loc.below g2 hbw0 hhi2) (Nat.le_trans hhi hbw0.size) (Nat.le_trans hhi2 hbw0.size) true (by simp only [true_iff]; exact E2.out)).mono ?_
        rintro e w2 ⟨rfl, b2⟩
        replace k0 := blk_keep k0 b2
        replace ck0 := k0.cell
        replace fk0 := k0.frozen
        replace k1 := blk_keep k1 b2
        replace ck1 := k1.cell
        replace fk1 := k1.frozen
        replace hbw0 := below_below hbw0 b2
        go_wp2_with fail
        refine (eqHeadS_any s.lg t.lg _ _ _ lo hi lo2 hi2 (RHdsL.loc.below h3 hbw0 hhi) (RHdsL.loc.below g3 hbw0 hhi2) (Nat.le_trans hhi hbw0.size) (Nat.le_trans hhi2 hbw0.size) false (by simp only [Bool.false_eq_true, false_iff]; exact E3.out)).mono ?_
        rintro e w3 ⟨rfl, b3⟩
        replace hbw0 := below_below hbw0 b3
        go_wp2_with fail
        go_ret
        exact ⟨ret_bool HT.out.symm, hbw0⟩
    · have hbf : q = false := by rw [← Bool.not_eq_true, HB.out]; rintro rfl; exact e2 rfl
      have HT := Lib.hid hbf; clear hbf
      have E2 := Lib.hid e2; clear e2
      go_enter Try.func30, Try.ntmps30
      go_wp2_with fail
      have hbw0 : Below w.heap.size w ((w.alloc (.cells #[.slice A s.pk.length a, .slice B s.sn.length b, .slice C s.lg.length c] 56)).alloc (.cells #[.slice A2 t.pk.length a2, .slice B2 t.sn.length b2, .slice C2 t.lg.length c2] 56)) := below_alloc' (below_alloc _ _) _
      have k0 : Blk ((w.alloc (.cells #[.slice A s.pk.length a, .slice B s.sn.length b, .slice C s.lg.length c] 56)).alloc (.cells #[.slice A2 t.pk.length a2, .slice B2 t.sn.length b2, .slice C2 t.lg.length c2] 56)) (w.heap.size) 56 #[.slice A s.pk.length a, .slice B s.sn.length b, .slice C s.lg.length c] := by
        have hk := blk_alloc (Blk.new w 56 #[.slice A s.pk.length a, .slice B s.sn.length b, .slice C s.lg.length c]) (.cells #[.slice A2 t.pk.length a2, .slice B2 t.sn.length b2, .slice C2 t.lg.length c2] 56)
        exact hk
      have k1 : Blk ((w.alloc (.cells #[.slice A s.pk.length a, .slice B s.sn.length b, .slice C s.lg.length c] 56)).alloc (.cells #[.slice A2 t.pk.length a2, .slice B2 t.sn.length b2, .slice C2 t.lg.length c2] 56)) (w.heap.size + 1) 56 #[.slice A2 t.pk.length a2, .slice B2 t.sn.length b2, .slice C2 t.lg.length c2] := by
        have hk := Blk.new (w.alloc (.cells #[.slice A s.pk.length a, .slice B s.sn.length b, .slice C s.lg.length c] 56)) 56 #[.slice A2 t.pk.length a2, .slice B2 t.sn.length b2, .slice C2 t.lg.length c2]
        simp only [World.size_alloc] at hk
        exact hk
      have hsw0 : w.heap.size + 2 ≤ ((w.alloc (.cells #[.slice A s.pk.length a, .slice B s.sn.length b, .slice C s.lg.length c] 56)).alloc (.cells #[.slice A2 t.pk.length a2, .slice B2 t.sn.length b2, .slice C2 t.lg.length c2] 56)).heap.size := by simp only [World.size_alloc]; omega
      generalize ((w.alloc (.cells #[.slice A s.pk.length a, .slice B s.sn.length b, .slice C s.lg.length c] 56)).alloc (.cells #[.slice A2 t.pk.length a2, .slice B2 t.sn.length b2, .slice C2 t.lg.length c2] 56)) = w0 at *
      have ck0 := k0.cell
      have fk0 := k0.frozen
      have ck1 := k1.cell
      have fk1 := k1.frozen
      refine (eqPackS_any s.pk t.pk _ _ _ lo hi lo2 hi2 (RPksL.loc.below h1 hbw0 hhi) (RPksL.loc.below g1 hbw0 hhi2) (Nat.le_trans hhi hbw0.size) (Nat.le_trans hhi2 hbw0.size) true (by simp only [true_iff]; exact E1.out)).mono ?_
      rintro e w1 ⟨rfl, b1⟩
      replace k0 := blk_keep k0 b1
      replace ck0 := k0.cell
      replace fk0 := k0.frozen
      replace k1 := blk_keep k1 b1
      replace ck1 := k1.cell
      replace fk1 := k1.frozen
      replace hbw0 := below_below hbw0 b1
      go_wp2_with fail
      refine (eqSnapS_any s.sn t.sn _ _ _ lo hi lo2 hi2 (RSnsL.loc.below h2 hbw0 hhi) (RSnsL.loc.below g2 hbw0 hhi2) (Nat.le_trans hhi hbw0.size) (Nat.le_trans hhi2 hbw0.size) false (by simp only [Bool.false_eq_true, false_iff]; exact E2.out)).mono ?_
      rintro e w2 ⟨rfl, b2⟩
      replace k0 := blk_keep k0 b2
      replace ck0 := k0.cell
      replace fk0 := k0.frozen
      replace k1 := blk_keep k1 b2
      replace ck1 := k1.cell
      replace fk1 := k1.frozen
      replace hbw0 := below_below hbw0 b2
      go_wp2_with fail
      go_ret
      exact ⟨ret_bool HT.out.symm, hbw0⟩
  · have hbf : q = false := by rw [← Bool.not_eq_true, HB.out]; rintro rfl; exact e1 rfl
    have HT := Lib.hid hbf; clear hbf
    have E1 := Lib.hid e1; clear e1
    go_enter Try.func30, Try.ntmps30
    go_wp2_with fail
    have hbw0 : Below w.heap.size w ((w.alloc (.cells #[.slice A s.pk.length a, .slice B s.sn.length b, .slice C s.lg.length c] 56)).alloc (.cells #[.slice A2 t.pk.length a2, .slice B2 t.sn.length b2, .slice C2 t.lg.length c2] 56)) := below_alloc' (below_alloc _ _) _
    have k0 : Blk ((w.alloc (.cells #[.slice A s.pk.length a, .slice B s.sn.length b, .slice C s.lg.length c] 56)).alloc (.cells #[.slice A2 t.pk.length a2, .slice B2 t.sn.length b2, .slice C2 t.lg.length c2] 56)) (w.heap.size) 56 #[.slice A s.pk.length a, .slice B s.sn.length b, .slice C s.lg.length c] := by
      have hk := blk_alloc (Blk.new w 56 #[.slice A s.pk.length a, .slice B s.sn.length b, .slice C s.lg.length c]) (.cells #[.slice A2 t.pk.length a2, .slice B2 t.sn.length b2, .slice C2 t.lg.length c2] 56)
      exact hk
    have k1 : Blk ((w.alloc (.cells #[.slice A s.pk.length a, .slice B s.sn.length b, .slice C s.lg.length c] 56)).alloc (.cells #[.slice A2 t.pk.length a2, .slice B2 t.sn.length b2, .slice C2 t.lg.length c2] 56)) (w.heap.size + 1) 56 #[.slice A2 t.pk.length a2, .slice B2 t.sn.length b2, .slice C2 t.lg.length c2] := by
      have hk := Blk.new (w.alloc (.cells #[.slice A s.pk.length a, .slice B s.sn.length b, .slice C s.lg.length c] 56)) 56 #[.slice A2 t.pk.length a2, .slice B2 t.sn.length b2, .slice C2 t.lg.length c2]
      simp only [World.size_alloc] at hk
      exact hk
    have hsw0 : w.heap.size + 2 ≤ ((w.alloc (.cells #[.slice A s.pk.length a, .slice B s.sn.length b, .slice C s.lg.length c] 56)).alloc (.cells #[.slice A2 t.pk.length a2, .slice B2 t.sn.length b2, .slice C2 t.lg.length c2] 56)).heap.size := by simp only [World.size_alloc]; omega
    generalize ((w.alloc (.cells #[.slice A s.pk.length a, .slice B s.sn.length b, .slice C s.lg.length c] 56)).alloc (.cells #[.slice A2 t.pk.length a2, .slice B2 t.sn.length b2, .slice C2 t.lg.length c2] 56)) = w0 at *
    have ck0 := k0.cell
    have fk0 := k0.frozen
    have ck1 := k1.cell
    have fk1 := k1.frozen
    refine (eqPackS_any s.pk t.pk _ _ _ lo hi lo2 hi2 (RPksL.loc.below h1 hbw0 hhi) (RPksL.loc.below g1 hbw0 hhi2) (Nat.le_trans hhi hbw0.size) (Nat.le_trans hhi2 hbw0.size) false (by simp only [Bool.false_eq_true, false_iff]; exact E1.out)).mono ?_
    rintro e w1 ⟨rfl, b1⟩
    replace k0 := blk_keep k0 b1
    replace ck0 := k0.cell
    replace fk0 := k0.frozen
    replace k1 := blk_keep k1 b1
    replace ck1 := k1.cell
    replace fk1 := k1.frozen
    replace hbw0 := below_below hbw0 b1
    go_wp2_with fail
    go_ret
    exact ⟨ret_bool HT.out.symm, hbw0⟩
end Go.Proofs.Ytanppokbjladfaa
