


/- The law FnShowTwice. No condition. -/
import Derived.Test.YtpdkgpbfmpekgaaLaw
import Derived.Test.YtpdkgpbfmpekgaaGD
import Derived.Test.YtpdkgpbfmpekgaaLdS
import Derived.Test.YtpdkgpbfmpekgaaGS
import Derived.Test.YtpdkgpbfmpekgaaHeard
import Derived.Test.YtpdkgpbfmpekgaaEnter
import Derived.Test.YtpdkgpbfmpekgaaMake
namespace Go.Proofs.Ytpdkgpbfmpekgaa.lawsht
open Go.RowKit Go.ChangeShapes Go.WideShapes Go.ChangeAt
set_option maxRecDepth 8000 in
set_option maxHeartbeats 4000000 in
theorem walk (l : List Int) {v : Value} {w : World} (h : RSl RByte 1 w 0 w.heap.size l [v]) (w' : World) (hw : w' = w := by rfl) :
    Calls Try.prog 3 #[v] w' fun e w' => e = .returned (.bool true) ∧ Below w.heap.size w w' := by
  subst hw
  obtain ⟨A, c, rfl⟩ := h.form
  have hlen : l.length ≤ maxLen := by obtain ⟨_, h1, h2⟩ := h.len_; omega
  unfold maxLen at hlen
  by_cases hbig : 1048576 < l.length
  · go_enter Try.func3, Try.ntmps3
    go_wp2_with fail
    go_ret
    exact ⟨rfl, Below.refl _ _⟩
  go_enter Try.func3, Try.ntmps3
  go_wp2_with fail
  refine (drawLieShow_any A _ c l _ h).mono ?_
  rintro e w1 ⟨va, vb, vc, s, L, rfl, os, hsv, hL, bb⟩
  have HSV := Lib.hid hsv; clear hsv
  obtain ⟨⟨A1, a1, rfl⟩, ⟨B1, b1, rfl⟩, C1, c1, rfl⟩ := os.form
  have HLP := Lib.hid hL; clear hL
  clear hlen hbig
  have s1 := bb.size
  have hlb : L.b.size ≤ maxLen := by have := HLP.out.bs; unfold maxLen; omega
  have HSM := Lib.hid HSV.out.wf.sm
  have HSL := Lib.hid (HSM.out.lie HLP.out.bs)
  have HB2 : Hid (bSto s ≤ 1099511627) := Lib.hid (by have := HSM.out.bulk; omega)
  have HB3 : Hid (bSto (lieS s L) ≤ 1099511627) := Lib.hid (by have := HSL.out.bulk; omega)
  go_wp2_with fail
  have hbw2 : Below w1.heap.size w1 ((w1.alloc (.cells #[.slice A1 s.pk.length a1, .slice B1 s.sn.length b1, .slice C1 s.lg.length c1] 27)).alloc (.cells #[.int .i64 L.k, .int .i64 L.n, .int .i64 L.m, .string L.b] 29)) := below_alloc' (below_alloc _ _) _
  have k0 : Blk ((w1.alloc (.cells #[.slice A1 s.pk.length a1, .slice B1 s.sn.length b1, .slice C1 s.lg.length c1] 27)).alloc (.cells #[.int .i64 L.k, .int .i64 L.n, .int .i64 L.m, .string L.b] 29)) (w1.heap.size) 27 #[.slice A1 s.pk.length a1, .slice B1 s.sn.length b1, .slice C1 s.lg.length c1] := by
    have hk := blk_alloc (Blk.new w1 27 #[.slice A1 s.pk.length a1, .slice B1 s.sn.length b1, .slice C1 s.lg.length c1]) (.cells #[.int .i64 L.k, .int .i64 L.n, .int .i64 L.m, .string L.b] 29)
    exact hk
  have k1 : Blk ((w1.alloc (.cells #[.slice A1 s.pk.length a1, .slice B1 s.sn.length b1, .slice C1 s.lg.length c1] 27)).alloc (.cells #[.int .i64 L.k, .int .i64 L.n, .int .i64 L.m, .string L.b] 29)) (w1.heap.size + 1) 29 #[.int .i64 L.k, .int .i64 L.n, .int .i64 L.m, .string L.b] := by
    have hk := Blk.new (w1.alloc (.cells #[.slice A1 s.pk.length a1, .slice B1 s.sn.length b1, .slice C1 s.lg.length c1] 27)) 29 #[.int .i64 L.k, .int .i64 L.n, .int .i64 L.m, .string L.b]
    simp only [World.size_alloc] at hk
    exact hk
  have hsw2 : w1.heap.size + 2 ≤ ((w1.alloc (.cells #[.slice A1 s.pk.length a1, .slice B1 s.sn.length b1, .slice C1 s.lg.length c1] 27)).alloc (.cells #[.int .i64 L.k, .int .i64 L.n, .int .i64 L.m, .string L.b] 29)).heap.size := by simp only [World.size_alloc]; omega
  generalize ((w1.alloc (.cells #[.slice A1 s.pk.length a1, .slice B1 s.sn.length b1, .slice C1 s.lg.length c1] 27)).alloc (.cells #[.int .i64 L.k, .int .i64 L.n, .int .i64 L.m, .string L.b] 29)) = w2 at *
  have ck0 := k0.cell
  have fk0 := k0.frozen
  have ck1 := k1.cell
  have fk1 := k1.frozen
  have os2 := os.below hbw2 (Nat.le_refl _)
  replace hbw2 := below_below bb hbw2
  clear os bb
  refine (implLieShow_any s L _ _ _ w2 _ _ os2.l (by omega) HB2.out hlb).mono ?_
  rintro e w3 ⟨u1, u2, u3, rfl, o3, b3⟩
  replace k0 := blk_keep k0 b3
  replace ck0 := k0.cell
  replace fk0 := k0.frozen
  replace k1 := blk_keep k1 b3
  replace ck1 := k1.cell
  replace fk1 := k1.frozen
  have os3 := os2.below b3 (by omega)
  have hb3 := below_below hbw2 b3
  have z3 := b3.size
  clear os2 hbw2 b3
  obtain ⟨A3, a3, rfl⟩ := ORow.form o3.pk
  obtain ⟨B3, bb3, rfl⟩ := ORow.form o3.sn
  obtain ⟨C3, c3, rfl⟩ := OHw.form o3.lg
  obtain ⟨x, hx⟩ : ∃ x, x = lieS s L := ⟨_, rfl⟩
  rw [← hx] at o3 ⊢
  have HXE := Lib.hid hx; clear hx
  go_wp2_with fail
  have hbw4 : Below w3.heap.size w3 (w3.alloc (.cells #[.slice A3 x.pk.length a3, .slice B3 x.sn.length bb3, .slice C3 x.lg.length c3] 27)) := below_alloc _ _
  have m0 : Blk (w3.alloc (.cells #[.slice A3 x.pk.length a3, .slice B3 x.sn.length bb3, .slice C3 x.lg.length c3] 27)) (w3.heap.size) 27 #[.slice A3 x.pk.length a3, .slice B3 x.sn.length bb3, .slice C3 x.lg.length c3] := by
    have hk := Blk.new w3 27 #[.slice A3 x.pk.length a3, .slice B3 x.sn.length bb3, .slice C3 x.lg.length c3]
    exact hk
  have hsw4 : w3.heap.size + 1 ≤ (w3.alloc (.cells #[.slice A3 x.pk.length a3, .slice B3 x.sn.length bb3, .slice C3 x.lg.length c3] 27)).heap.size := by simp only [World.size_alloc]; omega
  generalize (w3.alloc (.cells #[.slice A3 x.pk.length a3, .slice B3 x.sn.length bb3, .slice C3 x.lg.length c3] 27)) = w4 at *
  have cm0 := m0.cell
  have fm0 := m0.frozen
  replace k0 := blk_keep k0 hbw4
  replace ck0 := k0.cell
  replace fk0 := k0.frozen
  replace k1 := blk_keep k1 hbw4
  replace ck1 := k1.cell
  replace fk1 := k1.frozen
  have os4 := os3.below hbw4 (by omega)
  have o4 := o3.below hbw4 (Nat.le_refl _)
  have hb4 := below_below hb3 hbw4
  have z4 := hbw4.size
  clear os3 o3 hb3 hbw4
  have f0 := ck0 0
  have f1 := ck0 1
  have f2 := ck0 2
  have g0 := ck1 0
  have g1 := ck1 1
  have g2 := ck1 2
  have g3 := ck1 3
  have m00 := cm0 0
  have m01 := cm0 1
  have m02 := cm0 2
  have past0 := past_cell f0
  have past1 := past_cell f1
  have past2 := past_cell f2
  have past3 := past_cell g0
  have past4 := past_cell g1
  have past5 := past_cell g2
  have past6 := past_cell g3
  have past7 := past_cell m00
  have past8 := past_cell m01
  have past9 := past_cell m02
  refine region_pastT 6 [0, 1, 2] [3, 4, 5] (by kernel_rfl) (by kernel_rfl) (by kernel_rfl) ?_
  simp only [pick, List.map, List.getD_cons_zero, List.getD_cons_succ]
  repeat (go_big_quiet_step (fail))
  refine wpQuiet_nil ?_
  clear past0 past1 past2 past3 past4 past5 past6 past7 past8 past9
  apply Exists.intro
  apply past_any (fun v w' => ∃ va vb vc, v = .agg #[va, vb, vc] ∧ TSto w' w4.heap.size w'.heap.size (lieS s L) va vb vc)
  · rfl
  · exact fun v x y ⟨va, vb, vc, e, h⟩ hle => ⟨va, vb, vc, e, (h.below hle (Nat.le_refl _)).wide (Nat.le_refl _) hle.size⟩
  · intro y hF Qx hQ'
    have hQ := Lib.hid hQ'; clear hQ' hF
    have hd := os4.below y.ok (by omega)
    have hzy := y.ok.size
    go_wp2_with fail
    refine (specLieShow_any s L _ _ _ y.to _ _ hd.l (by omega) HB2.out hlb).mono ?_
    rintro e wy ⟨u5, u6, u7, rfl, r5, by5⟩
    go_wp2_with fail
    exact hQ.out _ _ by5 ⟨u5, u6, u7, rfl, r5.wide hzy (Nat.le_refl _)⟩
  intro vw
  simp only [Act.put, List.setIfInBounds_toArray, List.set_cons_zero, List.set_cons_succ]
  apply past_fix (.bool true)
  · intro y hF Qx hQ'
    have hQ := Lib.hid hQ'; clear hQ'
    obtain ⟨v5, v6, v7, rfl, o5⟩ := hF.1 (by kernel_rfl)
    clear hF
    have hzy := y.ok.size
    go_wp2_with fail
    refine (ldStore_any x (lieS s L) _ _ _ _ _ _ y.to _ _ _ _ (o4.below y.ok (by omega)).l o5.l (by omega) (Nat.le_refl _) true (by simp only [true_iff]; exact HXE.out)).mono ?_
    rintro e wy ⟨rfl, by5⟩
    go_wp2_with fail
    exact hQ.out _ by5
  simp only [Act.put, List.setIfInBounds_toArray, List.set_cons_zero, List.set_cons_succ]
  apply past_fix (.bool false)
  · intro y hF Qx hQ'
    have hQ := Lib.hid hQ'; clear hQ' hF
    go_wp2_with fail
    exact hQ.out _ (Below.refl _ _)
  simp only [Act.put, List.setIfInBounds_toArray, List.set_cons_zero, List.set_cons_succ]
  refine past_end ?_
  intro w5 hb5 xx hxx hF
  dsimp only [allF] at hF
  try rw [hxx] at hF
  clear hxx xx
  simp only [List.drop]
  clear f0 f1 f2 g0 g1 g2 g3 m00 m01 m02 hF
  replace k0 := blk_keep k0 hb5
  replace ck0 := k0.cell
  replace fk0 := k0.frozen
  replace k1 := blk_keep k1 hb5
  replace ck1 := k1.cell
  replace fk1 := k1.frozen
  replace m0 := blk_keep m0 hb5
  replace cm0 := m0.cell
  replace fm0 := m0.frozen
  have os5 := os4.below hb5 (by omega)
  have o5 := o4.below hb5 (by omega)
  have hb6 := below_below hb4 hb5
  have z5 := hb5.size
  clear os4 o4 hb4 hb5
  rw [← HXE.out] at HB3
  go_wp2_with fail
  refine (implLieShow_any x L _ _ _ w5 _ _ o5.l (by omega) HB3.out hlb).mono ?_
  rintro e w6 ⟨u1, u2, u3, rfl, o6, b6⟩
  replace k0 := blk_keep k0 b6
  replace ck0 := k0.cell
  replace fk0 := k0.frozen
  replace k1 := blk_keep k1 b6
  replace ck1 := k1.cell
  replace fk1 := k1.frozen
  replace m0 := blk_keep m0 b6
  replace cm0 := m0.cell
  replace fm0 := m0.frozen
  have os6 := os5.below b6 (by omega)
  have p6 := o5.below b6 (by omega)
  have hb7 := below_below hb6 b6
  have z6 := b6.size
  clear os5 o5 hb6 b6
  obtain ⟨A6, a6, rfl⟩ := ORow.form o6.pk
  obtain ⟨B6, b6, rfl⟩ := ORow.form o6.sn
  obtain ⟨C6, c6, rfl⟩ := OHw.form o6.lg
  obtain ⟨y, hy⟩ : ∃ y, y = lieS x L := ⟨_, rfl⟩
  rw [← hy] at o6 ⊢
  have HY := Lib.hid hy; clear hy
  have ax := below_alloc w6 (.cells #[.slice A6 y.pk.length a6, .slice B6 y.sn.length b6, .slice C6 y.lg.length c6] 27)
  have k0' := blk_keep k0 ax
  have k1' := blk_keep k1 ax
  have m0' := blk_keep m0 ax
  have n0' := Blk.new w6 27 #[.slice A6 y.pk.length a6, .slice B6 y.sn.length b6, .slice C6 y.lg.length c6]
  have ck0' := k0'.cell
  have ck1' := k1'.cell
  have cm0' := m0'.cell
  have cn0' := n0'.cell
  have os8 := os6.below ax (by omega)
  have p8 := p6.below ax (by omega)
  have o8 := o6.below ax (Nat.le_refl _)
  have hb8 := below_below hb7 ax
  have z8 := ax.size
  have H := Lib.hid (And.intro os8 (And.intro p8 (And.intro o8 (And.intro hb8 z8))))
  clear os8 p8 o8 hb8 z8 ax k0' k1' m0' n0' os6 p6 o6 hb7 k0 k1 m0 ck0 ck1 cm0 fk0 fk1 fm0
  by_cases h4 : L.k = 4
  · have t4 : (L.k == 4) = true := beq_iff_eq.2 h4
    have hys : y = s := by rw [HY.out, HXE.out, lieS_twice HSV.out.wf, if_pos h4]
    have HYS := Lib.hid hys
    clear h4 hys
    go_wp2_with fail
    obtain ⟨os8, p8, o8, hb8, z8⟩ := H.out
    refine (ldStore_any y s _ _ _ _ _ _ _ _ _ _ _ o8.l os8.l (by omega) (by omega) true (by simp only [true_iff]; exact HYS.out)).mono ?_
    rintro e w9 ⟨rfl, b9⟩
    clear ck0' ck1' cm0' cn0'
    go_wp2_with fail
    go_ret
    exact ⟨rfl, below_below hb8 b9⟩
  · have t4 : (L.k == 4) = false := beq_eq_false_iff_ne.2 h4
    have hys : y = x := by rw [HY.out, HXE.out, lieS_twice HSV.out.wf, if_neg h4]
    have HYS := Lib.hid hys
    clear h4 hys
    go_wp2_with fail
    obtain ⟨os8, p8, o8, hb8, z8⟩ := H.out
    refine (ldStore_any y x _ _ _ _ _ _ _ _ _ _ _ o8.l p8.l (by omega) (by omega) true (by simp only [true_iff]; exact HYS.out)).mono ?_
    rintro e w9 ⟨rfl, b9⟩
    clear ck0' ck1' cm0' cn0'
    go_wp2_with fail
    go_ret
    exact ⟨rfl, below_below hb8 b9⟩
set_option maxRecDepth 100000 in
theorem lifted (os : Os) (started : os.Started) (H : Type) (enc : TypeId × Value → H) :
    ReturnsInHanded {} Try.checked os 3 .any (Rows.fnShowTwiceSpec.pre6 enc Try.prog Try.f3 Rows.fnShowTwiceRow.domain false) (Rows.fnShowTwiceSpec.post enc Try.prog Try.f3 false true false false) := by
  refine law_lifted own started (by kernel_rfl) Try.func3 laidOut (by kernel_rfl) rfl Try.underlying4 rfl (fun ds hl => ?_)
    (ChangeSpec.witness6 (enc := enc) (C := Try.checked) false ⟨#[], #[.slice none 0 0], []⟩ 8 (by kernel_rfl) (by kernel_rfl) (by kernel_rfl) (by kernel_rfl)) ?_
  · match ds, hl with
    | [_], _ => rfl
  intro W base args ds p hval0 hA hlt hsz hsh
  have hval : ∀ (j : Nat) t v, Try.f3.params[j]? = some t → args[j]? = some v → Value.okWide Try.prog W .any base t v := hval0
  rw [Try.params3] at hA hval
  obtain ⟨v0, d0, rfl, rfl, h0⟩ := trodAll_one hA
  obtain ⟨a0_0, r0⟩ := open_byte_slice (hval 0 22 v0 rfl rfl) h0 (by first | exact hlt | exact fun x hx => hlt x (by simp [hx]))
  exact walk a0_0 r0 W

set_option maxRecDepth 100000 in
theorem factsHold : joinedFacts Try.pinned.checked.prog 3 Try.f3 Rows.fnShowTwiceSpec Rows.fnShowTwiceRow = true := by
  unfold joinedFacts
  rw [liftsFinal, mayEnter, makeIs]
  kernel_rfl
set_option maxRecDepth 100000 in
theorem proved : Rows.FnShowTwiceSaid :=
  OpenClaim.holds_of_wide 3 Try.f3 rfl rfl rfl rfl rfl rfl rfl ⟨rfl, rfl, rfl, rfl, rfl⟩ rfl rfl rfl rfl rfl (by kernel_rfl) Try.func3 factsHold
    (of_decide_eq_true (by kernel_rfl)) (by unfold Func.isWrapper; first | (rw [if_pos (by decide +kernel)]; kernel_rfl) | (rw [if_neg (by decide +kernel)]; exact ⟨rfl, rfl⟩))
    (fun os started H enc _ => lifted os started H enc)
#print axioms proved
end Go.Proofs.Ytpdkgpbfmpekgaa.lawsht
