


/- The law FnShow. No condition. -/
import Derived.Test.YtpdkgpbfmpekgaaLaw
import Derived.Test.YtpdkgpbfmpekgaaLie3
import Derived.Test.YtpdkgpbfmpekgaaLdS
import Derived.Test.YtpdkgpbfmpekgaaGS
import Derived.Test.YtpdkgpbfmpekgaaHeard
import Derived.Test.YtpdkgpbfmpekgaaEnter
import Derived.Test.YtpdkgpbfmpekgaaMake
namespace Go.Proofs.Ytpdkgpbfmpekgaa.lawshw
open Go.RowKit Go.ChangeShapes Go.WideShapes Go.ChangeAt
set_option maxRecDepth 16000 in
set_option maxHeartbeats 4000000 in
theorem walk (l : List Int) {v : Value} {w : World} (h : RSl RByte 1 w 0 w.heap.size l [v]) (w' : World) (hw : w' = w := by rfl) :
    Calls Try.prog 4 #[v] w' fun e w' => e = .returned (.bool true) ∧ Below w.heap.size w w' := by
  subst hw
  obtain ⟨A, c, rfl⟩ := h.form
  have hlen : l.length ≤ maxLen := by obtain ⟨_, h1, h2⟩ := h.len_; omega
  unfold maxLen at hlen
  by_cases hbig : 1048576 < l.length
  · go_enter Try.func4, Try.ntmps4
    go_wp2_with fail
    go_ret
    exact ⟨rfl, Below.refl _ _⟩
  go_enter Try.func4, Try.ntmps4
  go_wp2_with fail
  refine (drawLieShow_any A _ c l _ h).mono ?_
  rintro e w1 ⟨va, vb, vc, s, L, rfl, os, hsv, hL, bb⟩
  have HSV := Lib.hid hsv; clear hsv
  obtain ⟨⟨A1, a1, rfl⟩, ⟨B1, b1, rfl⟩, C1, c1, rfl⟩ := os.form
  have HLP := Lib.hid hL; clear hL
  clear hlen hbig
  have s1 := bb.size
  have hlb : L.b.size ≤ maxLen := by have := HLP.out.bs; unfold maxLen; omega
  have HSM := Lib.hid HSV.out.wf.sm
  have HSL := Lib.hid (HSM.out.lie HLP.out.bs)
  have HB2 : Hid (bSto s ≤ 1099511627) := Lib.hid (by have := HSM.out.bulk; omega)
  have HB3 : Hid (bSto (lieS s L) ≤ 1099511627) := Lib.hid (by have := HSL.out.bulk; omega)
  go_wp2_with fail
  have hbw2 : Below w1.heap.size w1 ((w1.alloc (.cells #[.slice A1 s.pk.length a1, .slice B1 s.sn.length b1, .slice C1 s.lg.length c1] 27)).alloc (.cells #[.int .i64 L.k, .int .i64 L.n, .int .i64 L.m, .string L.b] 29)) := below_alloc' (below_alloc _ _) _
  have k0 : Blk ((w1.alloc (.cells #[.slice A1 s.pk.length a1, .slice B1 s.sn.length b1, .slice C1 s.lg.length c1] 27)).alloc (.cells #[.int .i64 L.k, .int .i64 L.n, .int .i64 L.m, .string L.b] 29)) (w1.heap.size) 27 #[.slice A1 s.pk.length a1, .slice B1 s.sn.length b1, .slice C1 s.lg.length c1] := by
    have hk := blk_alloc (Blk.new w1 27 #[.slice A1 s.pk.length a1, .slice B1 s.sn.length b1, .slice C1 s.lg.length c1]) (.cells #[.int .i64 L.k, .int .i64 L.n, .int .i64 L.m, .string L.b] 29)
    exact hk
  have k1 : Blk ((w1.alloc (.cells #[.slice A1 s.pk.length a1, .slice B1 s.sn.length b1, .slice C1 s.lg.length c1] 27)).alloc (.cells #[.int .i64 L.k, .int .i64 L.n, .int .i64 L.m, .string L.b] 29)) (w1.heap.size + 1) 29 #[.int .i64 L.k, .int .i64 L.n, .int .i64 L.m, .string L.b] := by
    have hk := Blk.new (w1.alloc (.cells #[.slice A1 s.pk.length a1, .slice B1 s.sn.length b1, .slice C1 s.lg.length c1] 27)) 29 #[.int .i64 L.k, .int .i64 L.n, .int .i64 L.m, .string L.b]
    simp only [World.size_alloc] at hk
    exact hk
  have hsw2 : w1.heap.size + 2 ≤ ((w1.alloc (.cells #[.slice A1 s.pk.length a1, .slice B1 s.sn.length b1, .slice C1 s.lg.length c1] 27)).alloc (.cells #[.int .i64 L.k, .int .i64 L.n, .int .i64 L.m, .string L.b] 29)).heap.size := by simp only [World.size_alloc]; omega
  generalize ((w1.alloc (.cells #[.slice A1 s.pk.length a1, .slice B1 s.sn.length b1, .slice C1 s.lg.length c1] 27)).alloc (.cells #[.int .i64 L.k, .int .i64 L.n, .int .i64 L.m, .string L.b] 29)) = w2 at *
  have ck0 := k0.cell
  have fk0 := k0.frozen
  have ck1 := k1.cell
  have fk1 := k1.frozen
  have os2 := os.below hbw2 (Nat.le_refl _)
  replace hbw2 := below_below bb hbw2
  clear os bb
  refine (implLieShow_any s L _ _ _ w2 _ _ os2.l (by omega) HB2.out hlb).mono ?_
  rintro e w3 ⟨u1, u2, u3, rfl, o3, b3⟩
  replace k0 := blk_keep k0 b3
  replace ck0 := k0.cell
  replace fk0 := k0.frozen
  replace k1 := blk_keep k1 b3
  replace ck1 := k1.cell
  replace fk1 := k1.frozen
  have os3 := os2.below b3 (by omega)
  have hb3 := below_below hbw2 b3
  have z3 := b3.size
  clear os2 hbw2 b3
  obtain ⟨A3, a3, rfl⟩ := ORow.form o3.pk
  obtain ⟨B3, bb3, rfl⟩ := ORow.form o3.sn
  obtain ⟨C3, c3, rfl⟩ := OHw.form o3.lg
  obtain ⟨x, hx⟩ : ∃ x, x = lieS s L := ⟨_, rfl⟩
  rw [← hx] at o3 ⊢
  have HXE := Lib.hid hx; clear hx
  go_wp2_with fail
  have hbw4 : Below w3.heap.size w3 (w3.alloc (.cells #[.slice A3 x.pk.length a3, .slice B3 x.sn.length bb3, .slice C3 x.lg.length c3] 27)) := below_alloc _ _
  have m0 : Blk (w3.alloc (.cells #[.slice A3 x.pk.length a3, .slice B3 x.sn.length bb3, .slice C3 x.lg.length c3] 27)) (w3.heap.size) 27 #[.slice A3 x.pk.length a3, .slice B3 x.sn.length bb3, .slice C3 x.lg.length c3] := by
    have hk := Blk.new w3 27 #[.slice A3 x.pk.length a3, .slice B3 x.sn.length bb3, .slice C3 x.lg.length c3]
    exact hk
  have hsw4 : w3.heap.size + 1 ≤ (w3.alloc (.cells #[.slice A3 x.pk.length a3, .slice B3 x.sn.length bb3, .slice C3 x.lg.length c3] 27)).heap.size := by simp only [World.size_alloc]; omega
  generalize (w3.alloc (.cells #[.slice A3 x.pk.length a3, .slice B3 x.sn.length bb3, .slice C3 x.lg.length c3] 27)) = w4 at *
  have cm0 := m0.cell
  have fm0 := m0.frozen
  replace k0 := blk_keep k0 hbw4
  replace ck0 := k0.cell
  replace fk0 := k0.frozen
  replace k1 := blk_keep k1 hbw4
  replace ck1 := k1.cell
  replace fk1 := k1.frozen
  have os4 := os3.below hbw4 (by omega)
  have o4 := o3.below hbw4 (Nat.le_refl _)
  have hb4 := below_below hb3 hbw4
  have z4 := hbw4.size
  clear os3 o3 hb3 hbw4
  have f0 := ck0 0
  have f1 := ck0 1
  have f2 := ck0 2
  have g0 := ck1 0
  have g1 := ck1 1
  have g2 := ck1 2
  have g3 := ck1 3
  have m00 := cm0 0
  have m01 := cm0 1
  have m02 := cm0 2
  have past0 := past_cell f0
  have past1 := past_cell f1
  have past2 := past_cell f2
  have past3 := past_cell g0
  have past4 := past_cell g1
  have past5 := past_cell g2
  have past6 := past_cell g3
  have past7 := past_cell m00
  have past8 := past_cell m01
  have past9 := past_cell m02
  refine region_pastT 6 [0, 1, 2] [3, 4, 5] (by kernel_rfl) (by kernel_rfl) (by kernel_rfl) ?_
  simp only [pick, List.map, List.getD_cons_zero, List.getD_cons_succ]
  repeat (go_big_quiet_step (fail))
  refine wpQuiet_nil ?_
  clear past0 past1 past2 past3 past4 past5 past6 past7 past8 past9
  apply Exists.intro
  apply past_any (fun v w' => ∃ va vb vc, v = .agg #[va, vb, vc] ∧ TSto w' w4.heap.size w'.heap.size (lieS s L) va vb vc)
  · rfl
  · exact fun v x y ⟨va, vb, vc, e, h⟩ hle => ⟨va, vb, vc, e, (h.below hle (Nat.le_refl _)).wide (Nat.le_refl _) hle.size⟩
  · intro y hF Qx hQ'
    have hQ := Lib.hid hQ'; clear hQ' hF
    have hd := os4.below y.ok (by omega)
    have hzy := y.ok.size
    go_wp2_with fail
    refine (specLieShow_any s L _ _ _ y.to _ _ hd.l (by omega) HB2.out hlb).mono ?_
    rintro e wy ⟨u5, u6, u7, rfl, r5, by5⟩
    go_wp2_with fail
    exact hQ.out _ _ by5 ⟨u5, u6, u7, rfl, r5.wide hzy (Nat.le_refl _)⟩
  intro vw
  simp only [Act.put, List.setIfInBounds_toArray, List.set_cons_zero, List.set_cons_succ]
  apply past_fix (.bool true)
  · intro y hF Qx hQ'
    have hQ := Lib.hid hQ'; clear hQ'
    obtain ⟨v5, v6, v7, rfl, o5⟩ := hF.1 (by kernel_rfl)
    clear hF
    have hzy := y.ok.size
    go_wp2_with fail
    refine (ldStore_any x (lieS s L) _ _ _ _ _ _ y.to _ _ _ _ (o4.below y.ok (by omega)).l o5.l (by omega) (Nat.le_refl _) true (by simp only [true_iff]; exact HXE.out)).mono ?_
    rintro e wy ⟨rfl, by5⟩
    go_wp2_with fail
    exact hQ.out _ by5
  simp only [Act.put, List.setIfInBounds_toArray, List.set_cons_zero, List.set_cons_succ]
  apply past_fix (.bool false)
  · intro y hF Qx hQ'
    have hQ := Lib.hid hQ'; clear hQ' hF
    go_wp2_with fail
    exact hQ.out _ (Below.refl _ _)
  simp only [Act.put, List.setIfInBounds_toArray, List.set_cons_zero, List.set_cons_succ]
  refine past_end ?_
  intro w5 hb5 xx hxx hF
  dsimp only [allF] at hF
  try rw [hxx] at hF
  clear hxx xx
  simp only [List.drop]
  clear f0 f1 f2 g0 g1 g2 g3 m00 m01 m02 hF
  replace k0 := blk_keep k0 hb5
  replace ck0 := k0.cell
  replace fk0 := k0.frozen
  replace k1 := blk_keep k1 hb5
  replace ck1 := k1.cell
  replace fk1 := k1.frozen
  replace m0 := blk_keep m0 hb5
  replace cm0 := m0.cell
  replace fm0 := m0.frozen
  have os5 := os4.below hb5 (by omega)
  have o5 := o4.below hb5 (by omega)
  have hb6 := below_below hb4 hb5
  have z5 := hb5.size
  clear os4 o4 hb4 hb5
  have H5 := Lib.hid (And.intro os5 (And.intro o5 (And.intro hb6 k0)))
  have ax := below_alloc w5 (.cells #[.slice A3 x.pk.length a3, .slice B3 x.sn.length bb3, .slice C3 x.lg.length c3] 27)
  have k0' := blk_keep k0 ax
  have k1' := blk_keep k1 ax
  have m0' := blk_keep m0 ax
  have n0' := Blk.new w5 27 #[.slice A3 x.pk.length a3, .slice B3 x.sn.length bb3, .slice C3 x.lg.length c3]
  have ck0' := k0'.cell
  have ck1' := k1'.cell
  have cm0' := m0'.cell
  have cn0' := n0'.cell
  have fn0' := n0'.frozen
  have os8 := os5.below ax (by omega)
  have o8 := o5.below ax (by omega)
  have hb8 := below_below hb6 ax
  have z8 := ax.size
  have H := Lib.hid (And.intro os8 (And.intro o8 (And.intro hb8 (And.intro z8 (And.intro k0' (And.intro k1' (And.intro m0' n0')))))))
  clear os8 o8 hb8 z8 ax k0' k1' m0' n0' os5 o5 hb6 k0 k1 m0 ck0 ck1 fk0 fk1 fm0
  by_cases h1 : L.k = 1
  · have t1 : (L.k == 1) = true := beq_iff_eq.2 h1
    have HX := Lib.hid (HXE.out ▸ show1 (s := s) (l := L) h1)
    clear h1
    have hxl : x.pk.length ≤ 9223372036854775807 := by obtain ⟨_, h1, h2⟩ := RSl.len_ (H.out.2.1.l.pk); unfold maxLen at h2; omega
    go_wp2_with fail
    obtain ⟨os8, o8, hb8, z8, k0, k1, m0, n0⟩ := H.out
    clear H ck0' ck1' cm0' cn0' fn0' cm0
    generalize w5.alloc (.cells #[.slice A3 x.pk.length a3, .slice B3 x.sn.length bb3, .slice C3 x.lg.length c3] 27) = w8 at *
    have ck0 := k0.cell
    have ck1 := k1.cell
    have cm0 := m0.cell
    have cn0 := n0.cell
    go_loopw [7] (fun ii wr => ∃ k : Nat, k ≤ x.pk.length ∧ ii = .int .i64 k ∧ Below w8.heap.size w8 wr) (fun ii _ => x.pk.length - (intOf ii).toNat)
    case atStart => exact ⟨0, Nat.zero_le _, rfl, Below.refl _ _⟩
    case round =>
      obtain ⟨k, hk, rfl, hbr⟩ := hrel
      have cm0 := (blk_keep m0 hbr).cell
      have ck1 := (blk_keep k1 hbr).cell
      have ck0 := (blk_keep k0 hbr).cell
      by_cases hlt : k < x.pk.length
      · obtain ⟨p, hpk⟩ := some_of_lt hlt
        obtain ⟨b1, off, es, hAe, _, hbb, _, ⟨v2, rfl, hg1, hr1⟩, hcc⟩ := (RPksL.loc.below o8.l.pk hbr (by omega)).at_ hpk
        subst hAe
        have hc0 : wr.cell? ⟨b1, off + k * 2, none⟩ = some (.int .i64 p.no) := by simpa using hcc 0 _ rfl
        clear hcc
        have tn : (p.no == L.n) = false := beq_eq_false_iff_ne.2 (HX.out.1 p (List.mem_of_getElem? hpk))
        clear hpk
        go_wp2_with fail
        go_quiet (fail)
        have hb3 := below_drewN hbr nq
        go_wp2_with fail
        go_roundw
        case rel => exact ⟨k + 1, by omega, by go_num, hb3⟩
        case measure => simp [intOf]; omega
      · obtain rfl : k = x.pk.length := by omega
        have tl : ((x.sn.length : Int) == s.sn.length) = true := by rw [HX.out.2.1, beq_iff_eq]
        have hog := (o8.below hbr (by omega)).l.lg
        have hos := (os8.below hbr (by omega)).l.lg
        go_wp2_with fail
        refine (ldLog_any x.lg s.lg _ _ wr _ _ _ _ hog hos (by have := hbr.size; omega) (by have := hbr.size; omega) true (by simp only [true_iff]; exact HX.out.2.2)).mono ?_
        rintro e w9 ⟨rfl, b9⟩
        go_wp2_with fail
        go_ret
        exact ⟨rfl, below_below (below_below hb8 hbr) b9⟩
  have t1 : (L.k == 1) = false := beq_eq_false_iff_ne.2 h1
  by_cases h2 : L.k = 2
  · have t2 : (L.k == 2) = true := beq_iff_eq.2 h2
    have HX := Lib.hid (HXE.out ▸ show2 (s := s) (l := L) HSV.out.wf HLP.out rfl h2)
    clear h1 h2
    have tp : ((x.pk.length : Int) == s.pk.length) = true := by rw [HX.out.2.2.2.1, beq_iff_eq]
    have tn : ((x.lg.length : Int) == L.n) = true := by rw [HX.out.2.2.2.2, beq_iff_eq]
    go_wp2_with fail
    obtain ⟨os8, o8, hb8, z8, k0, k1, m0, n0⟩ := H.out
    refine (implLogBegins_yes x.lg s.lg HX.out.1 HSV.out.wf.okl HX.out.2.1 HX.out.2.2.1 _ _ _ _ _ _ _ o8.l.lg os8.l.lg (by omega) (by omega)).mono ?_
    rintro e w9 ⟨rfl, b9⟩
    clear cm0 ck0' ck1' cm0' cn0' fn0'
    have ck0 := (blk_keep k0 b9).cell
    have ck1 := (blk_keep k1 b9).cell
    have cm0 := (blk_keep m0 b9).cell
    clear H k0 k1 m0 n0
    go_wp2_with fail
    go_ret
    exact ⟨rfl, below_below hb8 b9⟩
  have t2 : (L.k == 2) = false := beq_eq_false_iff_ne.2 h2
  by_cases h4 : L.k = 4
  · have t4 : (L.k == 4) = true := beq_iff_eq.2 h4
    have HX := Lib.hid (HXE.out ▸ show4 (s := s) (l := L) HSV.out.wf HLP.out h4)
    clear h1 h2 h4
    have tl : ((x.lg.length : Int) == s.lg.length) = true := by rw [HX.out.2.1, beq_iff_eq]
    have tp : ((x.pk.length : Int) == s.pk.length) = true := by rw [HX.out.2.2.1, beq_iff_eq]
    go_wp2_with fail
    obtain ⟨os8, o8, hb8, z8, k0, k1, m0, n0⟩ := H.out
    clear H ck0' ck1' cm0' cn0' fn0' cm0
    generalize w5.alloc (.cells #[.slice A3 x.pk.length a3, .slice B3 x.sn.length bb3, .slice C3 x.lg.length c3] 27) = w8 at *
    have ck0 := k0.cell
    have ck1 := k1.cell
    have cm0 := m0.cell
    have cn0 := n0.cell
    have f0 := ck0 0
    have f2 := ck0 2
    have g1 := ck1 1
    have m00 := cm0 0
    have m02 := cm0 2
    rcases HX.out.2.2.2 with hf | ⟨hf, hn⟩
    · have tn : (forkAt 0 x.lg s.lg == L.n) = true := beq_iff_eq.2 hf
      clear hf
      have past0 := past_cell f0
      have past1 := past_cell f2
      have past2 := past_cell g1
      have past3 := past_cell m00
      have past4 := past_cell m02
      refine region_past (by kernel_rfl) (by kernel_rfl) ?_
      repeat (go_big_quiet_step (first | (go_at_call 11; refine past_call (v := .int .i64 (forkAt 0 x.lg s.lg)) (implLogFork_any x.lg s.lg HX.out.1 HSV.out.wf.okl _ _ _ _ _ _ _ (o8.below (Past.ok _) (by omega)).l.lg (os8.below (Past.ok _) (by omega)).l.lg (Nat.le_trans (by omega) (Past.ok _).size) (Nat.le_trans (by omega) (Past.ok _).size)))))
      refine wpQuiet_nil ?_
      intro wq hw1
      have hq := past_out hw1
      clear hw1 past0 past1 past2 past3 past4
      go_wp2_with fail
      go_ret
      exact ⟨rfl, hb8.trans (hq.mono hb8.size)⟩
    · have tn : (forkAt 0 x.lg s.lg == L.n) = false := beq_eq_false_iff_ne.2 hf
      have tn2 : decide ((s.lg.length : Int) ≤ L.n) = true := decide_eq_true hn
      clear hf hn
      have past0 := past_cell f0
      have past1 := past_cell f2
      have past2 := past_cell g1
      have past3 := past_cell m00
      have past4 := past_cell m02
      refine region_past (by kernel_rfl) (by kernel_rfl) ?_
      repeat (go_big_quiet_step (first | (go_at_call 11; refine past_call (v := .int .i64 (forkAt 0 x.lg s.lg)) (implLogFork_any x.lg s.lg HX.out.1 HSV.out.wf.okl _ _ _ _ _ _ _ (o8.below (Past.ok _) (by omega)).l.lg (os8.below (Past.ok _) (by omega)).l.lg (Nat.le_trans (by omega) (Past.ok _).size) (Nat.le_trans (by omega) (Past.ok _).size)))))
      refine wpQuiet_nil ?_
      intro wq hw1
      have hq := past_out hw1
      clear hw1 past0 past1 past2 past3 past4
      go_wp2_with fail
      go_ret
      exact ⟨rfl, hb8.trans (hq.mono hb8.size)⟩
  have t4 : (L.k == 4) = false := beq_eq_false_iff_ne.2 h4
  by_cases h3 : L.k = 3
  · have t3 : (L.k == 3) = true := beq_iff_eq.2 h3
    have HX := Lib.hid (HXE.out ▸ show3 (s := s) (l := L) h3)
    clear h1 h2 h3 h4
    have ax9 := below_alloc w5 (.cells #[.slice A1 s.pk.length a1, .slice B3 x.sn.length bb3, .slice C3 x.lg.length c3] 27)
    have n9 := Blk.new w5 27 #[.slice A1 s.pk.length a1, .slice B3 x.sn.length bb3, .slice C3 x.lg.length c3]
    have k9 := blk_keep H5.out.2.2.2 ax9
    have cn9 := n9.cell
    have ck9 := k9.cell
    have AX := Lib.hid ax9
    clear n9 k9 ax9
    go_wp2_with fail
    obtain ⟨os5, o5, hb6, -⟩ := H5.out
    have os9 := ((os5.below AX.out (by omega)).go (fun _ _ _ => rfl) (Nat.le_refl w'.heap.size) (show w1.heap.size ≤ w5.heap.size by omega)).l
    have o9 := ((o5.below AX.out (by omega)).go (fun _ _ _ => rfl) (show w'.heap.size ≤ w2.heap.size by omega) (show w3.heap.size ≤ w5.heap.size by omega)).l
    have hb9 := below_below hb6 AX.out
    refine (ldStore_any ⟨s.pk, x.sn, x.lg⟩ s _ _ _ _ _ _ _ _ _ _ _ ⟨os9.pk, o9.sn, o9.lg⟩ os9 AX.out.size AX.out.size true (by simp only [true_iff]; exact HX.out.1)).mono ?_
    rintro e w9 ⟨rfl, b9⟩
    clear cm0 ck0' ck1' cm0' cn0' fn0' cn9 ck9
    go_wp2_with fail
    go_ret
    exact ⟨rfl, below_below hb9 b9⟩
  have t3 : (L.k == 3) = false := beq_eq_false_iff_ne.2 h3
  have HX := Lib.hid (HXE.out ▸ show5 (s := s) (l := L) h1 h2 h3 h4)
  clear h1 h2 h3 h4
  go_wp2_with fail
  obtain ⟨os8, o8, hb8, z8, k0, k1, m0, n0⟩ := H.out
  refine (ldStore_any x s _ _ _ _ _ _ _ _ _ _ _ o8.l os8.l (by omega) (by omega) true (by simp only [true_iff]; exact HX.out)).mono ?_
  rintro e w9 ⟨rfl, b9⟩
  clear cm0 ck0' ck1' cm0' cn0' fn0'
  go_wp2_with fail
  go_ret
  exact ⟨rfl, below_below hb8 b9⟩
set_option maxRecDepth 100000 in
theorem lifted (os : Os) (started : os.Started) (H : Type) (enc : TypeId × Value → H) :
    ReturnsInHanded {} Try.checked os 4 .any (Rows.fnShowSpec.pre6 enc Try.prog Try.f4 Rows.fnShowRow.domain false) (Rows.fnShowSpec.post enc Try.prog Try.f4 false true false false) := by
  refine law_lifted own started (by kernel_rfl) Try.func4 laidOut (by kernel_rfl) rfl Try.underlying4 rfl (fun ds hl => ?_)
    (ChangeSpec.witness6 (enc := enc) (C := Try.checked) false ⟨#[], #[.slice none 0 0], []⟩ 8 (by kernel_rfl) (by kernel_rfl) (by kernel_rfl) (by kernel_rfl)) ?_
  · match ds, hl with
    | [_], _ => rfl
  intro W base args ds p hval0 hA hlt hsz hsh
  have hval : ∀ (j : Nat) t v, Try.f4.params[j]? = some t → args[j]? = some v → Value.okWide Try.prog W .any base t v := hval0
  rw [Try.params4] at hA hval
  obtain ⟨v0, d0, rfl, rfl, h0⟩ := trodAll_one hA
  obtain ⟨a0_0, r0⟩ := open_byte_slice (hval 0 22 v0 rfl rfl) h0 (by first | exact hlt | exact fun x hx => hlt x (by simp [hx]))
  exact walk a0_0 r0 W

set_option maxRecDepth 100000 in
theorem factsHold : joinedFacts Try.pinned.checked.prog 4 Try.f4 Rows.fnShowSpec Rows.fnShowRow = true := by
  unfold joinedFacts
  rw [liftsFinal, mayEnter, makeIs]
  kernel_rfl
set_option maxRecDepth 100000 in
theorem proved : Rows.FnShowSaid :=
  OpenClaim.holds_of_wide 4 Try.f4 rfl rfl rfl rfl rfl rfl rfl ⟨rfl, rfl, rfl, rfl, rfl⟩ rfl rfl rfl rfl rfl (by kernel_rfl) Try.func4 factsHold
    (of_decide_eq_true (by kernel_rfl)) (by unfold Func.isWrapper; first | (rw [if_pos (by decide +kernel)]; kernel_rfl) | (rw [if_neg (by decide +kernel)]; exact ⟨rfl, rfl⟩))
    (fun os started H enc _ => lifted os started H enc)
#print axioms proved
end Go.Proofs.Ytpdkgpbfmpekgaa.lawshw
