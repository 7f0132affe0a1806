


/- The law FnExactKeepGone: for all lists of snapshots and all rules the program's KeepGone returns what the reference's returns, leaves its arguments as they were, and hands back memory of its own. No condition. -/
import Derived.Test.YtpdbohjgmghgkaaLaw
import Derived.Test.YtpdbohjgmghgkaaHeard
import Derived.Test.YtpdbohjgmghgkaaEnter
import Derived.Test.YtpdbohjgmghgkaaMake
import Derived.Test.YtpdbohjgmghgkaaOpSt
namespace Go.Proofs.Ytpdbohjgmghgkaa.lawekg
open Go.RowKit Go.ChangeShapes Go.WideShapes Go.ChangeAt

theorem good' {xs : List St} {a b c : Int} {r : List Int} (h : KGoneR xs a b c r) (hl : xs.length ≤ 1048576) : Hid (∀ y ∈ r, In64 y) ∧ r.length ≤ 1048576 := ⟨Lib.hid (KGoneR_in64 h), Nat.le_trans (KGoneR_len h) hl⟩
set_option maxRecDepth 8000 in
set_option maxHeartbeats 8000000 in
theorem walk (xs : List St) {v : Value} {w : World} (h : RSl RSt 2 w 0 w.heap.size xs [v]) (rr : Int × Int × Int) {v2 : Value} (h2 : RRule rr v2) (w' : World) (hw : w' = w := by rfl) :
    Calls Try.prog 17 #[v, v2] w' fun e w' => e = .returned (.bool true) ∧ Below w.heap.size w w' := by
  subst hw
  obtain ⟨a, b, c9⟩ := rr
  obtain ⟨rfl, h64⟩ := h2
  dsimp only at h64
  obtain ⟨A, c, rfl⟩ := h.form
  obtain ⟨_, hc, hx⟩ := h.len_
  unfold maxLen at hx
  obtain ⟨r, hr0⟩ := KGoneR_total xs a b c9
  have HR := Lib.hid hr0; clear hr0
  have hg : ∀ x ∈ xs, FSt.good x := RSl.good h
  go_enter Try.func17, Try.ntmps17
  go_wp2_with fail
  have hbw0 : Below w'.heap.size w' (w'.alloc (.cells #[.int .i64 a, .int .i64 b, .int .i64 c9] 79)) := below_alloc _ _
  have k0 : Blk (w'.alloc (.cells #[.int .i64 a, .int .i64 b, .int .i64 c9] 79)) (w'.heap.size) 79 #[.int .i64 a, .int .i64 b, .int .i64 c9] := by
    have hk := Blk.new w' 79 #[.int .i64 a, .int .i64 b, .int .i64 c9]
    exact hk
  have hsw0 : w'.heap.size + 1 ≤ (w'.alloc (.cells #[.int .i64 a, .int .i64 b, .int .i64 c9] 79)).heap.size := by simp only [World.size_alloc]; omega
  generalize (w'.alloc (.cells #[.int .i64 a, .int .i64 b, .int .i64 c9] 79)) = w0 at *
  have ck0 := k0.cell
  have fk0 := k0.frozen
  have bb := hbw0
  by_cases hbig : 1048576 < xs.length
  · refine (szStampS_any xs.length c A 1048576 _ (by omega) (by omega) (by omega) (-1) (.inl ⟨by omega, rfl⟩)).mono ?_
    rintro e w1 ⟨rfl, rfl⟩
    go_wp2_with fail
    go_ret
    exact ⟨rfl, bb⟩
  have hl : xs.length ≤ 1048576 := by omega
  obtain ⟨HG, hlr⟩ := good' HR.out hl
  obtain ⟨z, hz, hz0⟩ : ∃ z : Int, z = 1048576 - (xs.length : Int) ∧ 0 ≤ z := ⟨_, rfl, by omega⟩
  refine (szStampS_any xs.length c A 1048576 _ (by omega) (by omega) (by omega) z (.inr ⟨by omega, hz⟩)).mono ?_
  rintro e w1 ⟨rfl, rfl⟩
  clear hz
  go_wp2_with fail
  have f0 := ck0 0
  have f1 := ck0 1
  have f2 := ck0 2
  have past0 := past_cell f0
  have past1 := past_cell f1
  have past2 := past_cell f2
  refine region_pastT 5 [0, 2] [1, 3, 4] (by kernel_rfl) (by kernel_rfl) (by kernel_rfl) ?_
  simp only [pick, List.map, List.getD_cons_zero, List.getD_cons_succ]
  repeat (go_big_quiet_step (fail))
  refine wpQuiet_nil ?_
  clear past0 past1 past2
  apply Exists.intro
  apply past_any (fun v w' => OwnF FSt 76 w' w0.heap.size v xs)
  · rfl
  · exact fun v x y h hle => h.below hle
  · intro y hF Qx hQ'
    have hQ := Lib.hid hQ'; clear hQ' hF
    have hby := below_below bb y.ok
    go_wp2_with fail
    refine (toStampS_any xs _ y.to 0 w'.heap.size (sl_keep RSt.loc h hby (Nat.le_refl _)) hby.size hl).mono ?_
    rintro e wy ⟨vy, rfl, oy, by_⟩
    go_wp2_with fail
    exact hQ.out _ _ by_ (oy.base y.ok.size)
  intro u19
  simp only [Act.put, List.setIfInBounds_toArray, List.set_cons_zero, List.set_cons_succ]
  apply past_fix (.agg #[.int .i64 a, .int .i64 b, .int .i64 c9])
  · intro y hF Qx hQ'
    have hQ := Lib.hid hQ'; clear hQ' hF
    go_wp2_with fail
    refine (toRule_any a b c9 y.to).mono ?_
    rintro e wy ⟨rfl, by_⟩
    go_wp2_with fail
    exact hQ.out _ by_
  simp only [Act.put, List.setIfInBounds_toArray, List.set_cons_zero, List.set_cons_succ]
  apply past_any (fun v w' => OwnF FInt 3 w' w0.heap.size v r)
  · rfl
  · exact fun v x y h hle => h.below hle
  · intro y hF Qx hQ'
    have hQ := Lib.hid hQ'; clear hQ'
    have oc := hF.1 (by kernel_rfl)
    clear hF
    obtain ⟨Ac, cc, rfl⟩ := oc.form
    go_wp2_with fail
    refine (specKeepGone_any xs a b c9 h64 _ y.to _ _ (Nat.le_refl _) (oc.sl hg (Nat.le_refl _)) r HR.out).mono ?_
    rintro e wy ⟨vy, rfl, oy, by_⟩
    go_wp2_with fail
    exact hQ.out _ _ by_ (oy.base y.ok.size)
  intro u22
  simp only [Act.put, List.setIfInBounds_toArray, List.set_cons_zero, List.set_cons_succ]
  refine past_end ?_
  intro w1 bw1 xx hxx hF
  dsimp only [allF] at hF
  try rw [hxx] at hF
  clear hxx xx
  obtain ⟨Ap1, cp1, rfl⟩ := hF.1.form
  have p1 := hF.1
  clear hF f0 f1 f2
  simp only [List.drop]
  replace k0 := blk_keep k0 bw1
  replace ck0 := k0.cell
  replace fk0 := k0.frozen
  replace bb := below_below bb bw1
  have atp1 := Lib.hid (fun g hg => p1.at_ (g := g) hg)
  go_wp2_with fail
  refine (toStampS_any xs _ w1 0 w'.heap.size (sl_keep RSt.loc h bb (Nat.le_refl _)) bb.size hl).mono ?_
  rintro e w2 ⟨v3, rfl, o3, b2⟩
  obtain ⟨A3, c3, rfl⟩ := o3.form
  replace k0 := blk_keep k0 b2
  replace ck0 := k0.cell
  replace fk0 := k0.frozen
  replace bb := below_below bb b2
  replace p1 := p1.below b2
  go_wp2_with fail
  refine (toRule_any a b c9 w2).mono ?_
  rintro e w3 ⟨rfl, b3⟩
  replace k0 := blk_keep k0 b3
  replace ck0 := k0.cell
  replace fk0 := k0.frozen
  replace bb := below_below bb b3
  replace p1 := p1.below b3
  replace o3 := o3.below b3
  go_wp2_with fail
  refine (implKeepGone_any xs a b c9 h64 _ w3 _ _ (Nat.le_refl _) (o3.sl hg (Nat.le_refl _)) r HR.out).mono ?_
  rintro e w4 ⟨v4, rfl, p2, b4⟩
  obtain ⟨A4, c4, rfl⟩ := p2.form
  replace k0 := blk_keep k0 b4
  replace ck0 := k0.cell
  replace fk0 := k0.frozen
  replace bb := below_below bb b4
  replace p1 := p1.below b4
  replace o3 := o3.below b4
  have z2 := b2.size
  have z3 := b3.size
  have z4 := b4.size
  have atp2 := Lib.hid (fun g hg => p2.at_ (g := g) hg)
  have teq : decide (r = r) = true := by simp
  go_wp2_with fail
  refine (eqIntS_any r r _ _ w4 _ _ _ _ (p2.sl HG.out (Nat.le_refl _)) (p1.sl HG.out (Nat.le_refl _))).mono ?_
  rintro e w5 ⟨rfl, n5, h5⟩
  have b5 : Below w4.heap.size w4 w5 := h5 ▸ below_drewN (Below.refl w4.heap.size w4) n5
  clear h5
  replace k0 := blk_keep k0 b5
  replace ck0 := k0.cell
  replace fk0 := k0.frozen
  replace bb := below_below bb b5
  replace p1 := p1.below b5
  replace p2 := p2.below b5
  replace o3 := o3.below b5
  go_wp2_with fail
  refine (toStampS_any xs _ w5 0 w'.heap.size (sl_keep RSt.loc h bb (Nat.le_refl _)) bb.size hl).mono ?_
  rintro e w6 ⟨v5, rfl, o5, b6⟩
  obtain ⟨A5, c5, rfl⟩ := o5.form
  replace k0 := blk_keep k0 b6
  replace ck0 := k0.cell
  replace fk0 := k0.frozen
  replace bb := below_below bb b6
  replace p1 := p1.below b6
  replace p2 := p2.below b6
  replace o3 := o3.below b6
  go_wp2_with fail
  refine (eqStampS_any xs xs _ _ w6 _ _ _ _ (o3.sl hg (Nat.le_refl _)) (o5.sl hg (Nat.le_refl _)) (Nat.le_refl _) (Nat.le_refl _) true (by simp)).mono ?_
  rintro e w7 ⟨rfl, b7⟩
  clear o5
  replace k0 := blk_keep k0 b7
  replace ck0 := k0.cell
  replace fk0 := k0.frozen
  replace bb := below_below bb b7
  replace p1 := p1.below b7
  replace p2 := p2.below b7
  replace o3 := o3.below b7
  have n13 := own_apart p1 o3 (by decide)
  have n23 := own_apart p2 o3 (by decide)
  have at3 := Lib.hid (fun g hg => o3.at_ (g := g) hg)
  go_wp2_with fail
  refine (markStampS_any xs.length _ _ w7 _ 1 o3 hl (by omega) (by omega)).mono ?_
  rintro e w8 ⟨rfl, -, ch8⟩
  replace p1 := p1.chg ch8 (fun b hb hs => n13 b hb hs)
  replace p2 := p2.chg ch8 (fun b hb hs => n23 b hb hs)
  have z1 := bw1.size
  replace k0 := blk_chg k0 ch8 (fun hs => by have := (at3.out _ hs).1; omega)
  replace ck0 := k0.cell
  replace fk0 := k0.frozen
  replace bb := bb.trans (ch8.below bb.size fun i hi hs => by have := (at3.out i hs).1; omega)
  clear n13 n23 o3
  have u8 : decide (1 + (xs.length : Int) * 2 < 0) = false := decide_eq_false (by omega)
  go_wp2_with fail
  refine (eqIntS_any r r _ _ w8 _ _ _ _ (p2.sl HG.out (Nat.le_refl _)) (p1.sl HG.out (Nat.le_refl _))).mono ?_
  rintro e w9 ⟨rfl, n9, h9⟩
  have b9 : Below w8.heap.size w8 w9 := h9 ▸ below_drewN (Below.refl w8.heap.size w8) n9
  clear h9
  replace k0 := blk_keep k0 b9
  replace ck0 := k0.cell
  replace fk0 := k0.frozen
  replace bb := below_below bb b9
  replace p1 := p1.below b9
  replace p2 := p2.below b9
  have z9 := b9.size
  have z8 := ch8.size
  have z7 := b7.size
  have z6 := b6.size
  have z5 := b5.size
  go_wp2_with fail
  refine (markIntS_any r _ w9 _ 1 (OwnI_iff.2 p2) hlr (by omega) (by omega)).mono ?_
  rintro e wa ⟨rfl, m2, cha⟩
  replace p1 := p1.chg cha (fun b hb hs => by have h1 := (atp1.out b hb).2; have h2 := (atp2.out b hs).1; omega)
  replace k0 := blk_chg k0 cha (fun hs => by have := (atp2.out _ hs).1; omega)
  replace ck0 := k0.cell
  replace fk0 := k0.frozen
  replace bb := bb.trans (cha.below bb.size fun i hi hs => by have := (atp2.out i hs).1; omega)
  clear p2
  have hmi : Hid (∀ x ∈ marks 1 r.length, In64 x) := Lib.hid fun x hx => by
    obtain ⟨j, hj⟩ := List.getElem?_of_mem hx
    have hlt := lt_of_some hj
    rw [marks_len] at hlt
    rw [marks_get 1 r.length j hlt] at hj
    cases hj
    unfold In64; omega
  have za := cha.size
  have u9 : decide (1 + (r.length : Int) < 0) = false := decide_eq_false (by omega)
  go_wp2_with fail
  refine (heldIntS_any r.length _ wa _ _ 1 (m2.sl hmi.out (Nat.le_refl _)) hlr (by omega) (by omega)).mono ?_
  rintro e wb ⟨rfl, rfl⟩
  go_wp2_with fail
  have f0 := ck0 0
  have f1 := ck0 1
  have f2 := ck0 2
  have past0 := past_cell f0
  have past1 := past_cell f1
  have past2 := past_cell f2
  refine region_pastT 5 [0, 2] [1, 3, 4] (by kernel_rfl) (by kernel_rfl) (by kernel_rfl) ?_
  simp only [pick, List.map, List.getD_cons_zero, List.getD_cons_succ]
  repeat (go_big_quiet_step (fail))
  refine wpQuiet_nil ?_
  clear past0 past1 past2
  apply Exists.intro
  apply past_any (fun v w' => OwnF FSt 76 w' wa.heap.size v xs)
  · rfl
  · exact fun v x y h hle => h.below hle
  · intro y hF Qx hQ'
    have hQ := Lib.hid hQ'; clear hQ' hF
    have hby := below_below bb y.ok
    go_wp2_with fail
    refine (toStampS_any xs _ y.to 0 w'.heap.size (sl_keep RSt.loc h hby (Nat.le_refl _)) hby.size hl).mono ?_
    rintro e wy ⟨vy, rfl, oy, by_⟩
    go_wp2_with fail
    exact hQ.out _ _ by_ (oy.base y.ok.size)
  intro u19
  simp only [Act.put, List.setIfInBounds_toArray, List.set_cons_zero, List.set_cons_succ]
  apply past_fix (.agg #[.int .i64 a, .int .i64 b, .int .i64 c9])
  · intro y hF Qx hQ'
    have hQ := Lib.hid hQ'; clear hQ' hF
    go_wp2_with fail
    refine (toRule_any a b c9 y.to).mono ?_
    rintro e wy ⟨rfl, by_⟩
    go_wp2_with fail
    exact hQ.out _ by_
  simp only [Act.put, List.setIfInBounds_toArray, List.set_cons_zero, List.set_cons_succ]
  apply past_any (fun v w' => OwnF FInt 3 w' wa.heap.size v r)
  · rfl
  · exact fun v x y h hle => h.below hle
  · intro y hF Qx hQ'
    have hQ := Lib.hid hQ'; clear hQ'
    have oc := hF.1 (by kernel_rfl)
    clear hF
    obtain ⟨Ac, cc, rfl⟩ := oc.form
    go_wp2_with fail
    refine (implKeepGone_any xs a b c9 h64 _ y.to _ _ (Nat.le_refl _) (oc.sl hg (Nat.le_refl _)) r HR.out).mono ?_
    rintro e wy ⟨vy, rfl, oy, by_⟩
    go_wp2_with fail
    exact hQ.out _ _ by_ (oy.base y.ok.size)
  intro u22
  simp only [Act.put, List.setIfInBounds_toArray, List.set_cons_zero, List.set_cons_succ]
  refine past_end ?_
  intro wc bwc xx hxx hF
  dsimp only [allF] at hF
  try rw [hxx] at hF
  clear hxx xx
  obtain ⟨Ap5, cp5, rfl⟩ := hF.1.form
  have p5 := hF.1
  clear hF f0 f1 f2
  simp only [List.drop]
  replace k0 := blk_keep k0 bwc
  replace ck0 := k0.cell
  replace fk0 := k0.frozen
  replace bb := below_below bb bwc
  replace p1 := p1.below bwc
  replace m2 := own_below' m2 bwc
  go_wp2_with fail
  refine (eqIntS_any r r _ _ wc _ _ _ _ (p5.sl HG.out (Nat.le_refl _)) (p1.sl HG.out (Nat.le_refl _))).mono ?_
  rintro e wd ⟨rfl, nd, hd⟩
  have bd : Below wc.heap.size wc wd := hd ▸ below_drewN (Below.refl wc.heap.size wc) nd
  clear hd
  replace k0 := blk_keep k0 bd
  replace ck0 := k0.cell
  replace fk0 := k0.frozen
  replace bb := below_below bb bd
  have m3 : OwnI wd w3.heap.size (.slice A4 r.length c4) (marks 1 r.length) := own_below' m2 bd
  go_wp2_with fail
  refine (heldIntS_any r.length _ wd _ _ 1 (m3.sl hmi.out (Nat.le_refl _)) hlr (by omega) (by omega)).mono ?_
  rintro e we ⟨rfl, rfl⟩
  go_wp2_with fail
  go_ret
  exact ⟨rfl, bb⟩

set_option maxRecDepth 100000 in
theorem lifted (os : Os) (started : os.Started) (H : Type) (enc : TypeId × Value → H) :
    ReturnsInHanded {} Try.checked os 17 .any (Rows.fnExactKeepGoneSpec.pre6 enc Try.prog Try.f17 Rows.fnExactKeepGoneRow.domain false) (Rows.fnExactKeepGoneSpec.post enc Try.prog Try.f17 false true false false) := by
  refine law_lifted own started (by kernel_rfl) Try.func17 laidOut (by kernel_rfl) rfl Try.underlying4 rfl (fun ds hl => ?_)
    (ChangeSpec.witness6 (enc := enc) (C := Try.checked) false ⟨#[], #[.slice none 0 0, .agg #[.int .i64 0, .int .i64 0, .int .i64 0]], []⟩ 8 (by kernel_rfl) (by kernel_rfl) (by kernel_rfl) (by kernel_rfl)) ?_
  · match ds, hl with
    | [_, _], _ => rfl
  intro W base args ds p hval0 hA hlt hsz hsh
  have hval : ∀ (j : Nat) t v, Try.f17.params[j]? = some t → args[j]? = some v → Value.okWide Try.prog W .any base t v := hval0
  rw [Try.params17] at hA hval
  obtain ⟨v0, v1, d0, d1, p0, p1, rfl, rfl, rfl, h0, h1⟩ := trodAll_two hA
  obtain ⟨a0_0, r0⟩ := open_stamps (hval 0 78 v0 rfl rfl) h0 (by first | exact hlt | exact fun x hx => hlt x (by simp [hx]))
  obtain ⟨a1_0, r1⟩ := open_rule (hval 1 79 v1 rfl rfl) h1 (by first | exact hlt | exact fun x hx => hlt x (by simp [hx]))
  exact walk a0_0 r0 a1_0 r1 W

set_option maxRecDepth 100000 in
theorem factsHold : joinedFacts Try.pinned.checked.prog 17 Try.f17 Rows.fnExactKeepGoneSpec Rows.fnExactKeepGoneRow = true := by
  unfold joinedFacts
  rw [liftsFinal, mayEnter, makeIs]
  kernel_rfl
set_option maxRecDepth 100000 in
theorem proved : Rows.FnExactKeepGoneSaid :=
  OpenClaim.holds_of_wide 17 Try.f17 rfl rfl rfl rfl rfl rfl rfl ⟨rfl, rfl, rfl, rfl, rfl⟩ rfl rfl rfl rfl rfl (by kernel_rfl) Try.func17 factsHold
    (of_decide_eq_true (by kernel_rfl)) (by unfold Func.isWrapper; first | (rw [if_pos (by decide +kernel)]; kernel_rfl) | (rw [if_neg (by decide +kernel)]; exact ⟨rfl, rfl⟩))
    (fun os started H enc _ => lifted os started H enc)
#print axioms proved
end Go.Proofs.Ytpdbohjgmghgkaa.lawekg
