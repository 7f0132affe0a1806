


/- The law FnExactLieShow: for every store and every lie the program's LieShow returns what the reference's returns, leaves its argument as it was, and hands back memory of its own. No condition. -/
import Derived.Test.YtanppokbjladfaaLaw
import Derived.Test.YtanppokbjladfaaHeard
import Derived.Test.YtanppokbjladfaaEnter
import Derived.Test.YtanppokbjladfaaMake
import Derived.Test.YtanppokbjladfaaGS
import Derived.Test.YtanppokbjladfaaSm
namespace Go.Proofs.Ytanppokbjladfaa.lawels
open Go.RowKit Go.ChangeShapes Go.WideShapes Go.ChangeAt

set_option maxRecDepth 8000 in
set_option maxHeartbeats 8000000 in
theorem walk (s : Sto) {v : Value} {w : World} (hr : RStore w 0 w.heap.size s v) (l : LieV) {vl : Value} (hl : RLie l vl) (w' : World) (hw : w' = w := by rfl) :
    Calls Try.prog 9 #[v, vl] w' fun e w' => e = .returned (.bool true) ∧ Below w.heap.size w w' := by
  subst hw
  obtain ⟨va, vb, vc, rfl, h⟩ := hr
  obtain ⟨rfl, -, -, -, hlb⟩ := hl
  obtain ⟨A, a, rfl⟩ := RSl.form h.pk
  obtain ⟨B, b, rfl⟩ := RSl.form h.sn
  obtain ⟨C, c, rfl⟩ := RSl.form h.lg
  go_enter Try.func9, Try.ntmps9
  go_wp2_with fail
  have hbw0 : Below w'.heap.size w' ((w'.alloc (.cells #[.slice A s.pk.length a, .slice B s.sn.length b, .slice C s.lg.length c] 50)).alloc (.cells #[.int .i64 l.k, .int .i64 l.n, .int .i64 l.m, .string l.b] 67)) := below_alloc' (below_alloc _ _) _
  have k0 : Blk ((w'.alloc (.cells #[.slice A s.pk.length a, .slice B s.sn.length b, .slice C s.lg.length c] 50)).alloc (.cells #[.int .i64 l.k, .int .i64 l.n, .int .i64 l.m, .string l.b] 67)) (w'.heap.size) 50 #[.slice A s.pk.length a, .slice B s.sn.length b, .slice C s.lg.length c] := by
    have hk := blk_alloc (Blk.new w' 50 #[.slice A s.pk.length a, .slice B s.sn.length b, .slice C s.lg.length c]) (.cells #[.int .i64 l.k, .int .i64 l.n, .int .i64 l.m, .string l.b] 67)
    exact hk
  have k1 : Blk ((w'.alloc (.cells #[.slice A s.pk.length a, .slice B s.sn.length b, .slice C s.lg.length c] 50)).alloc (.cells #[.int .i64 l.k, .int .i64 l.n, .int .i64 l.m, .string l.b] 67)) (w'.heap.size + 1) 67 #[.int .i64 l.k, .int .i64 l.n, .int .i64 l.m, .string l.b] := by
    have hk := Blk.new (w'.alloc (.cells #[.slice A s.pk.length a, .slice B s.sn.length b, .slice C s.lg.length c] 50)) 67 #[.int .i64 l.k, .int .i64 l.n, .int .i64 l.m, .string l.b]
    simp only [World.size_alloc] at hk
    exact hk
  have hsw0 : w'.heap.size + 2 ≤ ((w'.alloc (.cells #[.slice A s.pk.length a, .slice B s.sn.length b, .slice C s.lg.length c] 50)).alloc (.cells #[.int .i64 l.k, .int .i64 l.n, .int .i64 l.m, .string l.b] 67)).heap.size := by simp only [World.size_alloc]; omega
  generalize ((w'.alloc (.cells #[.slice A s.pk.length a, .slice B s.sn.length b, .slice C s.lg.length c] 50)).alloc (.cells #[.int .i64 l.k, .int .i64 l.n, .int .i64 l.m, .string l.b] 67)) = w0 at *
  have ck0 := k0.cell
  have fk0 := k0.frozen
  have ck1 := k1.cell
  have fk1 := k1.frozen
  refine (szStore_any s _ _ _ 1048576 _ 0 w'.heap.size (h.below hbw0 (Nat.le_refl _)) hbw0.size (by omega) (by omega)).mono ?_
  rintro e w1 ⟨rfl, b1⟩
  replace k0 := blk_keep k0 b1
  replace ck0 := k0.cell
  replace fk0 := k0.frozen
  replace k1 := blk_keep k1 b1
  replace ck1 := k1.cell
  replace fk1 := k1.frozen
  replace hbw0 := below_below hbw0 b1
  by_cases hbig : (1048576 : Int) - ((bSto s : Nat) : Int) < 0
  · rw [sub0_neg hbig]
    clear hbig
    go_wp2_with fail
    go_ret
    exact ⟨rfl, hbw0⟩
  have hb : bSto s ≤ 1048576 := by omega
  have HB := Lib.hid hb
  have HB2 : Hid (bSto s ≤ 1099511627) := Lib.hid (by omega)
  have hns : nSto s ≤ 2097152 := by have := nSto_le s; omega
  have hnl : nSto (lieS s l) ≤ 2097152 := by have := nSto_lie s l; omega
  have hbs : bulkS bSn s.sn ≤ 1048576 := by unfold bSto at hb; omega
  have hbl : bulkS bSn (lieS s l).sn ≤ 1048576 := by have := bSn_lie s l; omega
  have HNS := Lib.hid hns; have HNL := Lib.hid hnl; have HBS := Lib.hid hbs; have HBL := Lib.hid hbl
  clear hb hns hnl hbs hbl
  rw [sub0_pos (by omega)]
  obtain ⟨z, hz, hz0, hz1⟩ : ∃ z : Int, z = 1048576 - ((bSto s : Nat) : Int) ∧ 0 ≤ z ∧ z ≤ 1048576 := ⟨_, rfl, by omega, by omega⟩
  rw [← hz]
  clear hz hbig
  have hd0 : decide (z < 0) = false := decide_eq_false (by omega)
  go_wp2_with fail
  refine (szLie_any l z _ hlb hz0 hz1).mono ?_
  rintro e w2 ⟨rfl, b2⟩
  replace k0 := blk_keep k0 b2
  replace ck0 := k0.cell
  replace fk0 := k0.frozen
  replace k1 := blk_keep k1 b2
  replace ck1 := k1.cell
  replace fk1 := k1.frozen
  replace hbw0 := below_below hbw0 b2
  by_cases hbig : z - ((l.b.size : Nat) : Int) < 0
  · rw [sub0_neg hbig]
    clear hbig
    go_wp2_with fail
    go_ret
    exact ⟨rfl, hbw0⟩
  rw [sub0_pos (by omega)]
  obtain ⟨zz, hzz, hzz0⟩ : ∃ y : Int, y = z - ((l.b.size : Nat) : Int) ∧ 0 ≤ y := ⟨_, rfl, by omega⟩
  rw [← hzz]
  clear hzz hbig hd0
  have hd0 : decide (zz < 0) = false := decide_eq_false (by omega)
  have f0 := ck0 0
  have f1 := ck0 1
  have f2 := ck0 2
  have g0 := ck1 0
  have g1 := ck1 1
  have g2 := ck1 2
  have g3 := ck1 3
  go_wp2_with fail
  have past0 := past_cell f0
  have past1 := past_cell f1
  have past2 := past_cell f2
  have past3 := past_cell g0
  have past4 := past_cell g1
  have past5 := past_cell g2
  have past6 := past_cell g3
  refine region_pastT 6 [0, 2] [1, 3, 4, 5] (by kernel_rfl) (by kernel_rfl) (by kernel_rfl) ?_
  simp only [pick, List.map, List.getD_cons_zero, List.getD_cons_succ]
  repeat (go_big_quiet_step (fail))
  refine wpQuiet_nil ?_
  clear past0 past1 past2 past3 past4 past5 past6
  apply Exists.intro
  apply past_any (fun v w' => ∃ va vb vc, v = .agg #[va, vb, vc] ∧ OSto w' w2.heap.size w'.heap.size s va vb vc)
  · rfl
  · exact fun v x y ⟨va, vb, vc, e, h⟩ hle => ⟨va, vb, vc, e, (h.below hle (Nat.le_refl _)).go (fun _ _ _ => rfl) (Nat.le_refl _) hle.size⟩
  · intro x _ Qx hQ'
    have hQ := Lib.hid hQ'; clear hQ'
    go_wp2_with fail
    have hbx := below_below hbw0 x.ok
    refine (toStore_any s _ _ _ _ 0 w'.heap.size (h.below hbx (Nat.le_refl _)) hbx.size HB.out).mono ?_
    rintro e wy ⟨v5, v6, v7, rfl, o5, by5⟩
    go_wp2_with fail
    exact hQ.out _ _ by5 ⟨v5, v6, v7, rfl, o5.go (fun _ _ _ => rfl) x.ok.size (Nat.le_refl _)⟩
  intro vr
  simp only [Act.put, List.setIfInBounds_toArray, List.set_cons_zero, List.set_cons_succ]
  apply past_fix (.agg (LieC l))
  · intro x hF Qx hQ'
    have hQ := Lib.hid hQ'; clear hQ' hF
    go_wp2_with fail
    refine (toLie_any l x.to).mono ?_
    rintro e wy ⟨rfl, by5⟩
    go_wp2_with fail
    exact hQ.out _ by5
  simp only [Act.put, List.setIfInBounds_toArray, List.set_cons_zero, List.set_cons_succ]
  apply past_any (fun v w' => ∃ va vb vc, v = .agg #[va, vb, vc] ∧ TSto w' w2.heap.size w'.heap.size (lieS s l) va vb vc)
  · rfl
  · exact fun v x y ⟨va, vb, vc, e, h⟩ hle => ⟨va, vb, vc, e, (h.below hle (Nat.le_refl _)).wide (Nat.le_refl _) hle.size⟩
  · intro x hF Qx hQ'
    have hQ := Lib.hid hQ'; clear hQ'
    obtain ⟨v5, v6, v7, rfl, o5⟩ := hF.1 (by kernel_rfl)
    go_wp2_with fail
    refine (specLieShow_any s l _ _ _ x.to _ _ o5.l (Nat.le_refl _) HB2.out hlb).mono ?_
    rintro e wy ⟨u5, u6, u7, rfl, r5, by5⟩
    go_wp2_with fail
    exact hQ.out _ _ by5 ⟨u5, u6, u7, rfl, r5.wide x.ok.size (Nat.le_refl _)⟩
  intro vw
  simp only [Act.put, List.setIfInBounds_toArray, List.set_cons_zero, List.set_cons_succ]
  apply past_any (fun v w' => ∃ g, v = .pointer (some ⟨g, 0, none⟩) ∧ w2.heap.size ≤ g ∧ Blk w' g 56 #[.slice none 0 0, .slice none 0 0, .slice none 0 0])
  · rfl
  · exact fun v x y ⟨g, e, hg, hk⟩ hle => ⟨g, e, hg, blk_keep hk hle⟩
  · intro x hF Qx hQ'
    have hQ := Lib.hid hQ'; clear hQ' hF
    go_wp2_with fail
    exact hQ.out _ _ (below_alloc _ _) ⟨_, rfl, x.ok.size, Blk.new _ _ _⟩
  intro vx
  simp only [Act.put, List.setIfInBounds_toArray, List.set_cons_zero, List.set_cons_succ]
  refine past_end ?_
  intro w3 hb3 xx hxx hF
  dsimp only [allF] at hF
  try rw [hxx] at hF
  clear hxx xx
  simp only [List.drop]
  obtain ⟨⟨gw, rfl, hgw, kw⟩, ⟨uw1, uw2, uw3, rfl, tw⟩, -⟩ := hF
  clear f0 f1 f2 g0 g1 g2 g3
  replace k0 := blk_keep k0 hb3
  replace ck0 := k0.cell
  replace fk0 := k0.frozen
  replace k1 := blk_keep k1 hb3
  replace ck1 := k1.cell
  replace fk1 := k1.frozen
  replace hbw0 := below_below hbw0 hb3
  have z2 : w'.heap.size + 2 ≤ w2.heap.size := by have := b1.size; have := b2.size; omega
  have z3 := hb3.size
  clear b1 b2 hb3
  obtain ⟨Aw, aw, Bw, bw, Cw, cw, rfl, rfl, rfl⟩ := tw.form
  generalize lW1 : (lieS s l).pk.length = nW1 at *
  generalize lW2 : (lieS s l).sn.length = nW2 at *
  generalize lW3 : (lieS s l).lg.length = nW3 at *
  clear lW1 lW2 lW3
  have ckw := kw.cell
  have fkw := kw.frozen
  have kw4 := box_store kw (.slice Aw nW1 aw) (.slice Bw nW2 bw) (.slice Cw nW3 cw)
  have k04 := blk_set3 k0 (g := gw) (by omega) (.slice Aw nW1 aw) (.slice Bw nW2 bw) (.slice Cw nW3 cw)
  have k14 := blk_set3 k1 (g := gw) (by omega) (.slice Aw nW1 aw) (.slice Bw nW2 bw) (.slice Cw nW3 cw)
  have hb4 := below_set3 hbw0 (g := gw) (by omega) (.slice Aw nW1 aw) (.slice Bw nW2 bw) (.slice Cw nW3 cw)
  have tw4 := tw.set3 kw (.slice Aw nW1 aw) (.slice Bw nW2 bw) (.slice Cw nW3 cw)
  have hs4 := size_set3 w3 gw (.slice Aw nW1 aw) (.slice Bw nW2 bw) (.slice Cw nW3 cw)
  have H4 := Lib.hid (And.intro kw4 (And.intro k04 (And.intro k14 (And.intro hb4 (And.intro tw4 hs4)))))
  have hgw2 := kw.lt
  clear kw4 k04 k14 hb4 tw4 hs4 tw
  go_wp2_with fail
  generalize ((w3.setCell ⟨gw, 0, none⟩ (.slice Aw nW1 aw)).setCell ⟨gw, 1, none⟩ (.slice Bw nW2 bw)).setCell ⟨gw, 2, none⟩ (.slice Cw nW3 cw) = w4 at *
  obtain ⟨kw4, k04, k14, hb4, tw4, hs4⟩ := H4.out
  clear H4 ckw fkw kw k0 k1 ck0 ck1 fk0 fk1 hbw0
  refine (toStore_any s _ _ _ w4 0 w'.heap.size (h.below hb4 (Nat.le_refl _)) hb4.size HB.out).mono ?_
  rintro e w5 ⟨v1, v2, v3, rfl, o1, b5⟩
  obtain ⟨A1, a1, rfl⟩ := ORow.form o1.pk
  obtain ⟨B1, b1', rfl⟩ := ORow.form o1.sn
  obtain ⟨C1, c1, rfl⟩ := ORow.form o1.lg
  have z5 := b5.size
  have k0 := blk_keep k04 b5
  have k1 := blk_keep k14 b5
  have kw := blk_keep kw4 b5
  have tw := tw4.below b5 (by omega)
  have hbw0 := below_below hb4 b5
  clear kw4 k04 k14 hb4 tw4 b5
  have ck0 := k0.cell
  have ck1 := k1.cell
  have ckw := kw.cell
  have fk0 := k0.frozen
  have fk1 := k1.frozen
  have fkw := kw.frozen
  go_wp2_with fail
  have hbw6 : Below w5.heap.size w5 (w5.alloc (.cells #[.slice A1 s.pk.length a1, .slice B1 s.sn.length b1', .slice C1 s.lg.length c1] 56)) := below_alloc _ _
  have m0 : Blk (w5.alloc (.cells #[.slice A1 s.pk.length a1, .slice B1 s.sn.length b1', .slice C1 s.lg.length c1] 56)) (w5.heap.size) 56 #[.slice A1 s.pk.length a1, .slice B1 s.sn.length b1', .slice C1 s.lg.length c1] := by
    have hk := Blk.new w5 56 #[.slice A1 s.pk.length a1, .slice B1 s.sn.length b1', .slice C1 s.lg.length c1]
    exact hk
  have hsw6 : w5.heap.size + 1 ≤ (w5.alloc (.cells #[.slice A1 s.pk.length a1, .slice B1 s.sn.length b1', .slice C1 s.lg.length c1] 56)).heap.size := by simp only [World.size_alloc]; omega
  generalize (w5.alloc (.cells #[.slice A1 s.pk.length a1, .slice B1 s.sn.length b1', .slice C1 s.lg.length c1] 56)) = w6 at *
  have cm0 := m0.cell
  have fm0 := m0.frozen
  replace k0 := blk_keep k0 hbw6
  replace ck0 := k0.cell
  replace fk0 := k0.frozen
  replace k1 := blk_keep k1 hbw6
  replace ck1 := k1.cell
  replace fk1 := k1.frozen
  replace kw := blk_keep kw hbw6
  replace ckw := kw.cell
  replace fkw := kw.frozen
  have z6 := hbw6.size
  replace hbw0 := below_below hbw0 hbw6
  replace tw := tw.below hbw6 (by omega)
  replace o1 := o1.below hbw6 (Nat.le_refl _)
  have f0 := cm0 0
  have f1 := cm0 1
  have f2 := cm0 2
  have g0 := ck1 0
  have g1 := ck1 1
  have g2 := ck1 2
  have g3 := ck1 3
  have past0 := past_cell f0
  have past1 := past_cell f1
  have past2 := past_cell f2
  have past3 := past_cell g0
  have past4 := past_cell g1
  have past5 := past_cell g2
  have past6 := past_cell g3
  refine region_pastT 5 [0, 1] [2, 3, 4] (by kernel_rfl) (by kernel_rfl) (by kernel_rfl) ?_
  simp only [pick, List.map, List.getD_cons_zero, List.getD_cons_succ]
  repeat (go_big_quiet_step (fail))
  refine wpQuiet_nil ?_
  clear past0 past1 past2 past3 past4 past5 past6
  apply Exists.intro
  apply past_fix (.agg (LieC l))
  · intro x hF Qx hQ'
    have hQ := Lib.hid hQ'; clear hQ' hF
    go_wp2_with fail
    refine (toLie_any l x.to).mono ?_
    rintro e wy ⟨rfl, by5⟩
    go_wp2_with fail
    exact hQ.out _ by5
  simp only [Act.put, List.setIfInBounds_toArray, List.set_cons_zero, List.set_cons_succ]
  apply past_any (fun v w' => ∃ va vb vc, v = .agg #[va, vb, vc] ∧ OStW w' w6.heap.size w'.heap.size (lieS s l) va vb vc)
  · rfl
  · exact fun v x y ⟨va, vb, vc, e, h⟩ hle => ⟨va, vb, vc, e, (h.below hle (Nat.le_refl _)).go (fun _ _ _ => rfl) (Nat.le_refl _) hle.size⟩
  · intro x hF Qx hQ'
    have hQ := Lib.hid hQ'; clear hQ'
    have o1x := o1.below x.ok (by omega)
    go_wp2_with fail
    refine (implLieShow_any s l _ _ _ x.to _ _ (o1x.l) (by have := x.ok.size; omega) HB2.out hlb).mono ?_
    rintro e wy ⟨u5, u6, u7, rfl, r5, by5⟩
    go_wp2_with fail
    exact hQ.out _ _ by5 ⟨u5, u6, u7, rfl, r5.go (fun _ _ _ => rfl) x.ok.size (Nat.le_refl _)⟩
  intro vi
  simp only [Act.put, List.setIfInBounds_toArray, List.set_cons_zero, List.set_cons_succ]
  apply past_any (fun v w' => ∃ g, v = .pointer (some ⟨g, 0, none⟩) ∧ w6.heap.size ≤ g ∧ Blk w' g 56 #[.slice none 0 0, .slice none 0 0, .slice none 0 0])
  · rfl
  · exact fun v x y ⟨g, e, hg, hk⟩ hle => ⟨g, e, hg, blk_keep hk hle⟩
  · intro x hF Qx hQ'
    have hQ := Lib.hid hQ'; clear hQ' hF
    go_wp2_with fail
    exact hQ.out _ _ (below_alloc _ _) ⟨_, rfl, x.ok.size, Blk.new _ _ _⟩
  intro vx
  simp only [Act.put, List.setIfInBounds_toArray, List.set_cons_zero, List.set_cons_succ]
  refine past_end ?_
  intro w7 hb7 xx hxx hF
  dsimp only [allF] at hF
  try rw [hxx] at hF
  clear hxx xx
  simp only [List.drop]
  obtain ⟨⟨gi, rfl, hgi, ki⟩, ⟨ui1, ui2, ui3, rfl, ti⟩, -⟩ := hF
  clear f0 f1 f2 g0 g1 g2 g3 hbw6
  replace k0 := blk_keep k0 hb7
  replace ck0 := k0.cell
  replace fk0 := k0.frozen
  replace k1 := blk_keep k1 hb7
  replace ck1 := k1.cell
  replace fk1 := k1.frozen
  replace kw := blk_keep kw hb7
  replace ckw := kw.cell
  replace fkw := kw.frozen
  replace m0 := blk_keep m0 hb7
  replace cm0 := m0.cell
  replace fm0 := m0.frozen
  replace hbw0 := below_below hbw0 hb7
  replace tw := tw.below hb7 (by omega)
  replace o1 := o1.below hb7 (by omega)
  have z7 := hb7.size
  clear hb7
  obtain ⟨Ai, ai, Bi, bi, Ci, ci, rfl, rfl, rfl⟩ := ti.form
  generalize lI1 : (lieS s l).pk.length = nI1 at *
  generalize lI2 : (lieS s l).sn.length = nI2 at *
  generalize lI3 : (lieS s l).lg.length = nI3 at *
  clear lI1 lI2 lI3
  have cki := ki.cell
  have fki := ki.frozen
  have hgi2 := ki.lt
  have H4 := Lib.hid (And.intro (box_store ki (.slice Ai nI1 ai) (.slice Bi nI2 bi) (.slice Ci nI3 ci)) (And.intro (blk_set3 k0 (g := gi) (by omega) (.slice Ai nI1 ai) (.slice Bi nI2 bi) (.slice Ci nI3 ci)) (And.intro (blk_set3 k1 (g := gi) (by omega) (.slice Ai nI1 ai) (.slice Bi nI2 bi) (.slice Ci nI3 ci)) (And.intro (blk_set3 kw (g := gi) (by omega) (.slice Ai nI1 ai) (.slice Bi nI2 bi) (.slice Ci nI3 ci)) (And.intro (blk_set3 m0 (g := gi) (by omega) (.slice Ai nI1 ai) (.slice Bi nI2 bi) (.slice Ci nI3 ci)) (And.intro (below_set3 hbw0 (g := gi) (by omega) (.slice Ai nI1 ai) (.slice Bi nI2 bi) (.slice Ci nI3 ci)) (And.intro (tw.set3 ki (.slice Ai nI1 ai) (.slice Bi nI2 bi) (.slice Ci nI3 ci)) (And.intro (o1.w.set3 ki (.slice Ai nI1 ai) (.slice Bi nI2 bi) (.slice Ci nI3 ci)) (And.intro (ti.set3 ki (.slice Ai nI1 ai) (.slice Bi nI2 bi) (.slice Ci nI3 ci)) (size_set3 w7 gi (.slice Ai nI1 ai) (.slice Bi nI2 bi) (.slice Ci nI3 ci)))))))))))
  clear tw o1 ti
  go_wp2_with fail
  generalize ((w7.setCell ⟨gi, 0, none⟩ (.slice Ai nI1 ai)).setCell ⟨gi, 1, none⟩ (.slice Bi nI2 bi)).setCell ⟨gi, 2, none⟩ (.slice Ci nI3 ci) = w8 at *
  obtain ⟨ki8, k08, k18, kw8, km8, hb8, tw8, o18, ti8, hs8⟩ := H4.out
  clear H4 ckw fkw kw k0 k1 ck0 ck1 fk0 fk1 hbw0 ki cki fki m0 cm0 fm0
  have zi8 : w6.heap.size ≤ gi ∧ gi < w8.heap.size := ⟨hgi, by omega⟩
  have zw8 : w2.heap.size ≤ gw ∧ gw < w4.heap.size := ⟨hgw, by omega⟩
  clear hgi hgw hgi2 hgw2
  refine (eqStore_any (lieS s l) (lieS s l) _ _ _ _ _ _ w8 w6.heap.size w7.heap.size w2.heap.size w3.heap.size ti8.l tw8.l (by omega) (by omega) true (by simp)).mono ?_
  rintro e w9 ⟨rfl, b9⟩
  have k09 := blk_keep k08 b9
  have k19 := blk_keep k18 b9
  have kw9 := blk_keep kw8 b9
  have km9 := blk_keep km8 b9
  have ki9 := blk_keep ki8 b9
  have hb9 := below_below hb8 b9
  have tw9 := tw8.below b9 (by omega)
  have o19 := o18.below b9 (by omega)
  have ti9 := ti8.below b9 (by omega)
  have zs9 := b9.size
  clear k08 k18 kw8 km8 ki8 hb8 tw8 o18 ti8 b9
  have ck09 := k09.cell
  have ck19 := k19.cell
  have ckw9 := kw9.cell
  have ckm9 := km9.cell
  have cki9 := ki9.cell
  have f0 := k09.cell 0
  have f1 := k09.cell 1
  have f2 := k09.cell 2
  have q0 := km9.cell 0
  have q1 := km9.cell 1
  have q2 := km9.cell 2
  have HO4 := Lib.hid o19.l
  go_wp2_with fail
  have hbw0 := hb9
  have past0 := past_cell q0
  have past1 := past_cell q1
  have past2 := past_cell q2
  have past3 := past_cell f0
  have past4 := past_cell f1
  have past5 := past_cell f2
  refine region_pastT 5 [0, 1] [2, 3, 4] (by kernel_rfl) (by kernel_rfl) (by kernel_rfl) ?_
  simp only [pick, List.map, List.getD_cons_zero, List.getD_cons_succ]
  repeat (go_big_quiet_step (fail))
  refine wpQuiet_nil ?_
  clear past0 past1 past2 past3 past4 past5
  apply Exists.intro
  apply past_any (fun v w' => ∃ va vb vc, v = .agg #[va, vb, vc] ∧ OSto w' w9.heap.size w'.heap.size s va vb vc)
  · rfl
  · exact fun v x y ⟨va, vb, vc, e, h⟩ hle => ⟨va, vb, vc, e, (h.below hle (Nat.le_refl _)).go (fun _ _ _ => rfl) (Nat.le_refl _) hle.size⟩
  · intro x _ Qx hQ'
    have hQ := Lib.hid hQ'; clear hQ'
    go_wp2_with fail
    have hbx := below_below hbw0 x.ok
    refine (toStore_any s _ _ _ _ 0 w'.heap.size (h.below hbx (Nat.le_refl _)) hbx.size HB.out).mono ?_
    rintro e wy ⟨v5, v6, v7, rfl, o5, by5⟩
    go_wp2_with fail
    exact hQ.out _ _ by5 ⟨v5, v6, v7, rfl, o5.go (fun _ _ _ => rfl) x.ok.size (Nat.le_refl _)⟩
  intro vr
  simp only [Act.put, List.setIfInBounds_toArray, List.set_cons_zero, List.set_cons_succ]
  apply past_fix (.bool true)
  · intro x hF Qx hQ'
    have hQ := Lib.hid hQ'; clear hQ'
    obtain ⟨v5, v6, v7, rfl, o5⟩ := hF.1 (by kernel_rfl)
    go_wp2_with fail
    have o4 := HO4.out.below x.ok (by omega)
    refine (eqStore_any s s _ _ _ _ _ _ _ _ w5.heap.size _ _ o4 o5.l (by have := x.ok.size; omega) (Nat.le_refl _) true (by simp)).mono ?_
    rintro e wy ⟨rfl, by5⟩
    go_wp2_with fail
    exact hQ.out _ by5
  simp only [Act.put, List.setIfInBounds_toArray, List.set_cons_zero, List.set_cons_succ]
  apply past_fix (.bool false)
  · intro x hF Qx hQ'
    have hQ := Lib.hid hQ'; clear hQ'
    go_wp2_with fail
    exact hQ.out _ (Below.refl _ _)
  simp only [Act.put, List.setIfInBounds_toArray, List.set_cons_zero, List.set_cons_succ]
  refine past_end ?_
  intro w10 hb2 xx hxx hF
  dsimp only [allF] at hF
  try rw [hxx] at hF
  clear hxx xx
  simp only [List.drop]
  clear f0 f1 f2 q0 q1 q2 HO4 hbw0 hF
  have k010 := blk_keep k09 hb2
  have k110 := blk_keep k19 hb2
  have kw10 := blk_keep kw9 hb2
  have km10 := blk_keep km9 hb2
  have ki10 := blk_keep ki9 hb2
  have hb10 := below_below hb9 hb2
  have tw10 := tw9.below hb2 (by omega)
  have o110 := o19.below hb2 (by omega)
  have ti10 := ti9.below hb2 (by omega)
  have zs10 := hb2.size
  clear k09 k19 kw9 km9 ki9 hb9 tw9 o19 ti9 hb2
  have ck010 := k010.cell
  have ck110 := k110.cell
  have ckw10 := kw10.cell
  have ckm10 := km10.cell
  have cki10 := ki10.cell
  go_wp2_with fail
  refine (markStore_any s _ _ _ w10 w4.heap.size w5.heap.size o110 (by omega) HBS.out 1 (by omega) (by have := HNS.out; omega)).mono ?_
  rintro e w11 ⟨rfl, -, c11⟩
  have k011 := blk_chg k010 c11 fun hx => by omega
  have k111 := blk_chg k110 c11 fun hx => by omega
  have kw11 := blk_chg kw10 c11 fun hx => by omega
  have km11 := blk_chg km10 c11 fun hx => by omega
  have ki11 := blk_chg ki10 c11 fun hx => by omega
  have hb11 : Below w'.heap.size w' w11 := hb10.trans (c11.below (by omega) fun i hi hx => by omega)
  have tw11 := tw10.go (w' := w11) (fun b b1 b2 => c11.block b (by omega) fun hx => by omega) (Nat.le_refl _) (Nat.le_refl _)
  have ti11 := ti10.go (w' := w11) (fun b b1 b2 => c11.block b (by omega) fun hx => by omega) (Nat.le_refl _) (Nat.le_refl _)
  have zs11 := c11.size
  clear k010 k110 kw10 km10 ki10 hb10 tw10 o110 ti10 c11 ck010 ck110 ckw10 ckm10 cki10
  have ckw11 := kw11.cell
  have cki11 := ki11.cell
  obtain ⟨kk, hkk, hkk0⟩ : ∃ kk : Int, kk = 1 + ((nSto s : Nat) : Int) ∧ 0 ≤ kk := ⟨_, rfl, by omega⟩
  rw [← hkk]
  clear hkk
  have hd1 : decide (kk < 0) = false := decide_eq_false (by omega)
  go_wp2_with fail
  refine (eqStore_any (lieS s l) (lieS s l) _ _ _ _ _ _ w11 w6.heap.size w7.heap.size w2.heap.size w3.heap.size ti11.l tw11.l (by omega) (by omega) true (by simp)).mono ?_
  rintro e w12 ⟨rfl, b12⟩
  have k012 := blk_keep k011 b12
  have k112 := blk_keep k111 b12
  have kw12 := blk_keep kw11 b12
  have ki12 := blk_keep ki11 b12
  have hb12 := below_below hb11 b12
  have tw12 := tw11.below b12 (by omega)
  have ti12 := ti11.below b12 (by omega)
  have zs12 := b12.size
  clear k011 k111 kw11 ki11 hb11 tw11 ti11 b12
  have ck012 := k012.cell
  have ck112 := k112.cell
  have ckw12 := kw12.cell
  have cki12 := ki12.cell
  go_wp2_with fail
  refine (markStore_any (lieS s l) _ _ _ w12 w6.heap.size w7.heap.size ti12 (by omega) HBL.out 1 (by omega) (by have := HNL.out; omega)).mono ?_
  rintro e w13 ⟨rfl, ti13, c13⟩
  have k013 := blk_chg k012 c13 fun hx => by omega
  have k113 := blk_chg k112 c13 fun hx => by omega
  have kw13 := blk_chg kw12 c13 fun hx => by omega
  have ki13 := blk_chg ki12 c13 fun hx => typed_ne ki12 (by decide) hx.2.2
  have hb13 : Below w'.heap.size w' w13 := hb12.trans (c13.below (by omega) fun i hi hx => by omega)
  have tw13 := tw12.go (w' := w13) (fun b b1 b2 => c13.block b (by omega) fun hx => by omega) (Nat.le_refl _) (Nat.le_refl _)
  have zs13 := c13.size
  clear k012 k112 kw12 ki12 hb12 tw12 ti12 c13 ck012 ck112 ckw12 cki12
  have ck013 := k013.cell
  have ck113 := k113.cell
  have ckw13 := kw13.cell
  have cki13 := ki13.cell
  obtain ⟨kn, hkn, hkn0⟩ : ∃ kn : Int, kn = 1 + ((nSto (lieS s l) : Nat) : Int) ∧ 0 ≤ kn := ⟨_, rfl, by omega⟩
  have HKN := Lib.hid hkn
  rw [← hkn]
  clear hkn hd1
  have hd2 : decide (kn < 0) = false := decide_eq_false (by omega)
  have hd3 : (kn != kn) = false := by simp
  go_wp2_with fail
  refine (heldStore_any (lieS s l) _ _ _ w13 w6.heap.size w7.heap.size 1 ti13.l (by omega) HBL.out (by omega) (by have := HNL.out; omega)).mono ?_
  rintro e w14 ⟨rfl, b14⟩
  rw [← HKN.out]
  have k014 := blk_keep k013 b14
  have k114 := blk_keep k113 b14
  have kw14 := blk_keep kw13 b14
  have ki14 := blk_keep ki13 b14
  have hb14 := below_below hb13 b14
  have tw14 := tw13.below b14 (by omega)
  have ti14 := ti13.below b14 (by omega)
  have zs14 := b14.size
  clear k013 k113 kw13 ki13 hb13 tw13 ti13 b14
  have ck014 := k014.cell
  have ck114 := k114.cell
  have ckw14 := kw14.cell
  have cki14 := ki14.cell
  have f0 := ck014 0
  have f1 := ck014 1
  have f2 := ck014 2
  have g0 := ck114 0
  have g1 := ck114 1
  have g2 := ck114 2
  have g3 := ck114 3
  go_wp2_with fail
  have hbw0 := hb14
  have past0 := past_cell f0
  have past1 := past_cell f1
  have past2 := past_cell f2
  have past3 := past_cell g0
  have past4 := past_cell g1
  have past5 := past_cell g2
  have past6 := past_cell g3
  refine region_pastT 6 [0, 2] [1, 3, 4, 5] (by kernel_rfl) (by kernel_rfl) (by kernel_rfl) ?_
  simp only [pick, List.map, List.getD_cons_zero, List.getD_cons_succ]
  repeat (go_big_quiet_step (fail))
  refine wpQuiet_nil ?_
  clear past0 past1 past2 past3 past4 past5 past6
  apply Exists.intro
  apply past_any (fun v w' => ∃ va vb vc, v = .agg #[va, vb, vc] ∧ OSto w' w14.heap.size w'.heap.size s va vb vc)
  · rfl
  · exact fun v x y ⟨va, vb, vc, e, h⟩ hle => ⟨va, vb, vc, e, (h.below hle (Nat.le_refl _)).go (fun _ _ _ => rfl) (Nat.le_refl _) hle.size⟩
  · intro x _ Qx hQ'
    have hQ := Lib.hid hQ'; clear hQ'
    go_wp2_with fail
    have hbx := below_below hbw0 x.ok
    refine (toStore_any s _ _ _ _ 0 w'.heap.size (h.below hbx (Nat.le_refl _)) hbx.size HB.out).mono ?_
    rintro e wy ⟨v5, v6, v7, rfl, o5, by5⟩
    go_wp2_with fail
    exact hQ.out _ _ by5 ⟨v5, v6, v7, rfl, o5.go (fun _ _ _ => rfl) x.ok.size (Nat.le_refl _)⟩
  intro vr
  simp only [Act.put, List.setIfInBounds_toArray, List.set_cons_zero, List.set_cons_succ]
  apply past_fix (.agg (LieC l))
  · intro x hF Qx hQ'
    have hQ := Lib.hid hQ'; clear hQ' hF
    go_wp2_with fail
    refine (toLie_any l x.to).mono ?_
    rintro e wy ⟨rfl, by5⟩
    go_wp2_with fail
    exact hQ.out _ by5
  simp only [Act.put, List.setIfInBounds_toArray, List.set_cons_zero, List.set_cons_succ]
  apply past_any (fun v w' => ∃ va vb vc, v = .agg #[va, vb, vc] ∧ OStW w' w14.heap.size w'.heap.size (lieS s l) va vb vc)
  · rfl
  · exact fun v x y ⟨va, vb, vc, e, h⟩ hle => ⟨va, vb, vc, e, (h.below hle (Nat.le_refl _)).go (fun _ _ _ => rfl) (Nat.le_refl _) hle.size⟩
  · intro x hF Qx hQ'
    have hQ := Lib.hid hQ'; clear hQ'
    obtain ⟨v5, v6, v7, rfl, o5⟩ := hF.1 (by kernel_rfl)
    go_wp2_with fail
    refine (implLieShow_any s l _ _ _ x.to _ _ (o5.l) (Nat.le_refl _) HB2.out hlb).mono ?_
    rintro e wy ⟨u5, u6, u7, rfl, r5, by5⟩
    go_wp2_with fail
    exact hQ.out _ _ by5 ⟨u5, u6, u7, rfl, r5.go (fun _ _ _ => rfl) x.ok.size (Nat.le_refl _)⟩
  intro vi
  simp only [Act.put, List.setIfInBounds_toArray, List.set_cons_zero, List.set_cons_succ]
  apply past_any (fun v w' => ∃ g, v = .pointer (some ⟨g, 0, none⟩) ∧ w14.heap.size ≤ g ∧ Blk w' g 56 #[.slice none 0 0, .slice none 0 0, .slice none 0 0])
  · rfl
  · exact fun v x y ⟨g, e, hg, hk⟩ hle => ⟨g, e, hg, blk_keep hk hle⟩
  · intro x hF Qx hQ'
    have hQ := Lib.hid hQ'; clear hQ' hF
    go_wp2_with fail
    exact hQ.out _ _ (below_alloc _ _) ⟨_, rfl, x.ok.size, Blk.new _ _ _⟩
  intro vx
  simp only [Act.put, List.setIfInBounds_toArray, List.set_cons_zero, List.set_cons_succ]
  refine past_end ?_
  intro w15 b15 xx hxx hF
  dsimp only [allF] at hF
  try rw [hxx] at hF
  clear hxx xx
  simp only [List.drop]
  obtain ⟨⟨ga, rfl, hga, ka⟩, ⟨ua1, ua2, ua3, rfl, ta⟩, -⟩ := hF
  clear f0 f1 f2 g0 g1 g2 g3 hbw0
  have k015 := blk_keep k014 b15
  have k115 := blk_keep k114 b15
  have kw15 := blk_keep kw14 b15
  have ki15 := blk_keep ki14 b15
  have hb15 := below_below hb14 b15
  have tw15 := tw14.below b15 (by omega)
  have ti15 := ti14.below b15 (by omega)
  have zs15 := b15.size
  clear k014 k114 kw14 ki14 hb14 tw14 ti14 b15
  have ck015 := k015.cell
  have ck115 := k115.cell
  have ckw15 := kw15.cell
  have cki15 := ki15.cell
  obtain ⟨Aa, aa, Ba, ba, Ca, ca, rfl, rfl, rfl⟩ := ta.form
  generalize lA1 : (lieS s l).pk.length = nA1 at *
  generalize lA2 : (lieS s l).sn.length = nA2 at *
  generalize lA3 : (lieS s l).lg.length = nA3 at *
  clear lA1 lA2 lA3
  have cka := ka.cell
  have fka := ka.frozen
  have H4 := Lib.hid (And.intro (box_store ka (.slice Aa nA1 aa) (.slice Ba nA2 ba) (.slice Ca nA3 ca)) (And.intro (blk_set3 kw15 (g := ga) (by omega) (.slice Aa nA1 aa) (.slice Ba nA2 ba) (.slice Ca nA3 ca)) (And.intro (blk_set3 ki15 (g := ga) (by omega) (.slice Aa nA1 aa) (.slice Ba nA2 ba) (.slice Ca nA3 ca)) (And.intro (below_set3 hb15 (g := ga) (by omega) (.slice Aa nA1 aa) (.slice Ba nA2 ba) (.slice Ca nA3 ca)) (And.intro (tw15.set3 ka (.slice Aa nA1 aa) (.slice Ba nA2 ba) (.slice Ca nA3 ca)) (And.intro (ti15.t.set3 ka (.slice Aa nA1 aa) (.slice Ba nA2 ba) (.slice Ca nA3 ca)) (And.intro (ta.t.set3 ka (.slice Aa nA1 aa) (.slice Ba nA2 ba) (.slice Ca nA3 ca)) (size_set3 w15 ga (.slice Aa nA1 aa) (.slice Ba nA2 ba) (.slice Ca nA3 ca)))))))))
  clear tw15 ti15 ta ck015 ck115 k015 k115 hb15
  go_wp2_with fail
  generalize ((w15.setCell ⟨ga, 0, none⟩ (.slice Aa nA1 aa)).setCell ⟨ga, 1, none⟩ (.slice Ba nA2 ba)).setCell ⟨ga, 2, none⟩ (.slice Ca nA3 ca) = w16 at *
  obtain ⟨ka16, kw16, ki16, hb16, tw16, ti16, ta16, hs16⟩ := H4.out
  clear H4 ka cka fka kw15 ki15 ckw15 cki15
  refine (eqStore_any (lieS s l) (lieS s l) _ _ _ _ _ _ w16 w14.heap.size w15.heap.size w2.heap.size w3.heap.size ta16.l tw16.l (by omega) (by omega) true (by simp)).mono ?_
  rintro e w17 ⟨rfl, b17⟩
  have ki17 := blk_keep ki16 b17
  have cki17 := ki17.cell
  have ti17 := ti16.below b17 (by omega)
  have hb17 := below_below hb16 b17
  have z17 := b17.size
  clear ka16 kw16 ki16 hb16 tw16 ti16 ta16 b17
  go_wp2_with fail
  refine (heldStore_any (lieS s l) _ _ _ w17 w6.heap.size w7.heap.size 1 ti17.l (by omega) HBL.out (by omega) (by have := HNL.out; omega)).mono ?_
  rintro e w18 ⟨rfl, b18⟩
  rw [← HKN.out]
  go_wp2_with fail
  go_ret
  exact ⟨rfl, below_below hb17 b18⟩
set_option maxRecDepth 100000 in
theorem lifted (os : Os) (started : os.Started) (H : Type) (enc : TypeId × Value → H) :
    ReturnsInHanded {} Try.checked os 9 .any (Rows.fnExactLieShowSpec.pre6 enc Try.prog Try.f9 Rows.fnExactLieShowRow.domain false) (Rows.fnExactLieShowSpec.post enc Try.prog Try.f9 false true false false) := by
  refine law_lifted own started (by kernel_rfl) Try.func9 laidOut (by kernel_rfl) rfl Try.underlying4 rfl (fun ds hl => ?_)
    (ChangeSpec.witness6 (enc := enc) (C := Try.checked) false ⟨#[], #[.agg #[.slice none 0 0, .slice none 0 0, .slice none 0 0], .agg #[.int .i64 0, .int .i64 0, .int .i64 0, .string ⟨#[]⟩]], []⟩ 8 (by kernel_rfl) (by kernel_rfl) (by kernel_rfl) (by kernel_rfl)) ?_
  · match ds, hl with
    | [_, _], _ => rfl
  intro W base args ds p hval0 hA hlt hsz hsh
  have hval : ∀ (j : Nat) t v, Try.f9.params[j]? = some t → args[j]? = some v → Value.okWide Try.prog W .any base t v := hval0
  rw [Try.params9] at hA hval
  obtain ⟨v0, v1, d0, d1, p0, p1, rfl, rfl, rfl, h0, h1⟩ := trodAll_two hA
  obtain ⟨a0_0, r0⟩ := open_store (hval 0 50 v0 rfl rfl) h0 (by first | exact hlt | exact fun x hx => hlt x (by simp [hx]))
  obtain ⟨a1_0, r1⟩ := open_lie (hval 1 67 v1 rfl rfl) h1 (by first | exact hlt | exact fun x hx => hlt x (by simp [hx]))
  exact walk a0_0 r0 a1_0 r1 W

set_option maxRecDepth 100000 in
theorem factsHold : joinedFacts Try.pinned.checked.prog 9 Try.f9 Rows.fnExactLieShowSpec Rows.fnExactLieShowRow = true := by
  unfold joinedFacts
  rw [liftsFinal, mayEnter, makeIs]
  kernel_rfl
set_option maxRecDepth 100000 in
theorem proved : Rows.FnExactLieShowSaid :=
  OpenClaim.holds_of_wide 9 Try.f9 rfl rfl rfl rfl rfl rfl rfl ⟨rfl, rfl, rfl, rfl, rfl⟩ rfl rfl rfl rfl rfl (by kernel_rfl) Try.func9 factsHold
    (of_decide_eq_true (by kernel_rfl)) (by unfold Func.isWrapper; first | (rw [if_pos (by decide +kernel)]; kernel_rfl) | (rw [if_neg (by decide +kernel)]; exact ⟨rfl, rfl⟩))
    (fun os started H enc _ => lifted os started H enc)
#print axioms proved
end Go.Proofs.Ytanppokbjladfaa.lawels
