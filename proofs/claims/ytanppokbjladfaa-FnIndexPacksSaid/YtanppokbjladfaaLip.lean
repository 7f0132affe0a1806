


/- The law FnIndexPacks. No condition. -/
import Derived.Test.YtanppokbjladfaaLaw
import Derived.Test.YtanppokbjladfaaIpN
import Derived.Test.YtanppokbjladfaaPkI
import Derived.Test.YtanppokbjladfaaIxF
import Derived.Test.YtanppokbjladfaaHeard
import Derived.Test.YtanppokbjladfaaEnter
import Derived.Test.YtanppokbjladfaaMake
namespace Go.Proofs.Ytanppokbjladfaa.lawip
open Go.RowKit Go.ChangeShapes Go.WideShapes Go.ChangeAt

theorem spots_len : ∀ {l : List Pk} {n : Nat}, (∀ x ∈ l, x.its.length ≤ 5) → l.length ≤ n → (spots l).length ≤ 5 * n
  | [], _, _, _ => Nat.zero_le _
  | x :: l, n, h, hn => by
    have h1 := h x (by simp)
    have h2 := spots_len (l := l) (n := l.length) (fun y hy => h y (by simp [hy])) (Nat.le_refl _)
    have e : spots (x :: l) = spotsP x ++ spots l := by unfold spots; rw [List.flatMap_cons]
    rw [e, List.length_append]
    have e2 : (spotsP x).length = x.its.length := by unfold spotsP; rw [List.length_map]
    simp at hn
    omega
theorem iof_ix {l : List Pk} {r : List Sp} (h : IOf l r) : ixP r := by
  rcases h with ⟨h, rfl⟩ | ⟨_, rfl⟩
  · exact putsS_ix ⟨fun x hx => (by cases hx), List.Pairwise.nil⟩ h
  · exact ⟨fun x hx => (by cases hx), List.Pairwise.nil⟩
set_option maxRecDepth 8000 in
set_option maxHeartbeats 4000000 in
theorem walk (l : List Int) {v : Value} {w : World} (h : RSl RByte 1 w 0 w.heap.size l [v]) (l2 : List Int) {v2 : Value} (h2 : RSl RByte 1 w 0 w.heap.size l2 [v2]) (w' : World) (hw : w' = w := by rfl) :
    Calls Try.prog 4 #[v, v2] w' fun e w' => e = .returned (.bool true) ∧ Below w.heap.size w w' := by
  subst hw
  obtain ⟨A, c, rfl⟩ := h.form
  obtain ⟨A2, c2, rfl⟩ := h2.form
  have hlen : l.length ≤ maxLen := by obtain ⟨_, h1, h2⟩ := h.len_; omega
  have hlen2 : l2.length ≤ maxLen := by obtain ⟨_, h1, h2⟩ := h2.len_; omega
  unfold maxLen at hlen hlen2
  by_cases hbig : 1048576 < l.length
  · go_enter Try.func4, Try.ntmps4
    go_wp2_with fail
    go_ret
    exact ⟨rfl, Below.refl _ _⟩
  by_cases hbig2 : 1048576 < l2.length
  · go_enter Try.func4, Try.ntmps4
    go_wp2_with fail
    go_ret
    exact ⟨rfl, Below.refl _ _⟩
  go_enter Try.func4, Try.ntmps4
  go_wp2_with fail
  refine (drawIndexOf_any A _ c l _ h).mono ?_
  rintro e w1 ⟨v, xs, rfl, hx, hix, bb⟩
  have HIX := Lib.hid hix; clear hix
  obtain ⟨r, hr⟩ := IOf_total xs
  have HR := Lib.hid hr; clear hr
  have hsp := spots_len (fun x hx => (HIX.out.1 x hx).2.2.2) HIX.out.2.1
  obtain ⟨A1, c1, rfl⟩ := hx.form
  have s1 := bb.size
  go_wp2_with fail
  refine (implIndexOf_any xs _ _ _ _ (Nat.le_refl _) hx (by omega) r HR.out).mono ?_
  rintro e w2 ⟨v2, rfl, o2, b2⟩
  obtain ⟨A2', c2', rfl⟩ := o2.form
  have GM := Lib.hid (sp_good (iof_ix HR.out))
  have hx2 := RPks.tloc.below hx b2 (Nat.le_refl _)
  have bb2 := below_below bb b2
  have s2 := b2.size
  go_wp2_with fail
  refine (specIndexOf_any xs _ _ _ _ s2 hx2 (by omega) r HR.out).mono ?_
  rintro e w3 ⟨v3, rfl, o3, b3⟩
  obtain ⟨A3, c3, rfl⟩ := o3.form
  have hx3 := RPks.tloc.below hx2 b3 s2
  have bb3 := below_below bb2 b3
  have o23 := o2.below b3
  have s3 := b3.size
  go_wp2_with fail
  refine (ldIndex_any r r _ _ _ _ _ (Nat.le_refl _) (o23.sl GM.out (Nat.le_refl _)) ((o3.base s2).sl GM.out (Nat.le_refl _)) true (by simp)).mono ?_
  rintro e w4 ⟨rfl, b4⟩
  have hx4 := RPks.tloc.below hx3 b4 (by omega)
  have bb4 := below_below bb3 b4
  have o24 := o23.below b4
  have s4 := b4.size
  clear hx2 hx3 bb2 bb3 o23 o3 hx o2
  have hxl := HIX.out.2.1
  have hwr : wrap64 ((xs.length : Int) + 1) = (xs.length : Int) + 1 := by unfold wrap64; omega
  have hnz : ¬ ((xs.length : Int) + 1 = 0) := by omega
  obtain ⟨kk, hkk, hkl⟩ : ∃ kk : Nat, (l2.length : Int) % ((xs.length : Int) + 1) = kk ∧ kk ≤ xs.length := ⟨l2.length % (xs.length + 1), by rw [Int.natCast_emod]; simp, by have := Nat.mod_lt l2.length (show 0 < xs.length + 1 by omega); omega⟩
  have HKK := Lib.hid hkk; clear hkk
  clear hlen hlen2 hbig hbig2
  by_cases hp : 0 < xs.length
  · obtain ⟨x0, hx0⟩ := some_of_lt hp
    obtain ⟨b', off', A', c', rfl, -, -, -, hc0, -⟩ := pk_at hx4 hx0
    have hcc : w4.cell? ⟨b', off', none⟩ = some (.int .i64 x0.no) := by simpa using hc0
    have t1 : decide (0 < (xs.length : Int)) = true := decide_eq_true (by omega)
    have HX0 := Lib.hid hx0; clear hx0 hc0
    by_cases h0 : x0.no = 0
    · have t2 : (x0.no == 0) = true := beq_iff_eq.2 h0
      clear h0
      go_wp2_with fail
      refine (specIndexOf_any xs _ _ _ _ (by omega) hx4 (by omega) r HR.out).mono ?_
      rintro e w5 ⟨v5, rfl, o5, b5⟩
      obtain ⟨A5, c5, rfl⟩ := o5.form
      have o25 := o24.below b5
      go_wp2_with fail
      refine (ldIndex_any r r _ _ _ _ _ (Nat.le_refl _) (o25.sl GM.out (Nat.le_refl _)) ((o5.base (by omega)).sl GM.out (Nat.le_refl _)) true (by simp)).mono ?_
      rintro e w6 ⟨rfl, b6⟩
      go_wp2_with fail
      go_ret
      exact ⟨rfl, below_below (below_below bb4 b5) b6⟩
    · have t2 : (x0.no == 0) = false := beq_eq_false_iff_ne.2 h0
      have HNO := Lib.hid h0; clear h0
      have hkk := HKK.out
      go_wp2_with fail
      clear hcc
      generalize (some (⟨b', off', none⟩ : Addr)) = A1 at *
      have HALL : Hid (∀ s ∈ spots xs, spP s) := Lib.hid (ip_all HIX.out fun x hx => by have := Option.some.inj (hx.symm.trans HX0.out); subst this; exact HNO.out)
      rw [hkk]
      clear hkk
      have g1 : ¬ ((kk : Int) < 0) := by omega
      have g2 : (kk : Int) ≤ (xs.length : Int) := by omega
      obtain ⟨_, hcc1, hcc2⟩ := hx4.len_
      unfold maxLen at hcc2
      have g3 : (kk : Int) ≤ (c1 : Int) := by omega
      have HD := Lib.hid (hx4.drop_ (k := kk) hkl)
      have HT := Lib.hid (hx4.take_ (k := kk) hkl)
      obtain ⟨ra, rb, hra, hrb, hmg⟩ := ip_law HALL.out HR.out kk
      have HA := Lib.hid hra; clear hra
      have HB := Lib.hid hrb; clear hrb
      have HM := Lib.hid hmg; clear hmg
      have hla := Nat.le_trans HA.out.len (spots_len (l := xs.drop kk) (n := 3) (fun x hx => (HIX.out.1 x (List.mem_of_mem_drop hx)).2.2.2) (by rw [List.length_drop]; omega))
      have hlb := Nat.le_trans HB.out.len (spots_len (l := xs.take kk) (n := 3) (fun x hx => (HIX.out.1 x (List.mem_of_mem_take hx)).2.2.2) (by rw [List.length_take]; omega))
      have hsd := (spots_len (l := xs.drop kk) (n := 3) (fun x hx => (HIX.out.1 x (List.mem_of_mem_drop hx)).2.2.2) (by rw [List.length_drop]; omega))
      have hst := (spots_len (l := xs.take kk) (n := 3) (fun x hx => (HIX.out.1 x (List.mem_of_mem_take hx)).2.2.2) (by rw [List.length_take]; omega))
      have HGA := Lib.hid (sp_good HA.out.ix)
      have HGB := Lib.hid (sp_good HB.out.ix)
      refine region_pastT 11 [0, 1, 2, 4, 5, 6, 9] [3, 7, 8, 10] (by kernel_rfl) (by kernel_rfl) (by kernel_rfl) ?_
      simp only [pick, List.map, List.getD_cons_zero, List.getD_cons_succ]
      repeat (go_big_quiet_step (fail))
      refine wpQuiet_nil ?_
      generalize (if c1 = kk then A1 else Option.map (fun x => x.add (kk * 2)) A1) = AD at *
      clear g1 g2 g3
      apply Exists.intro
      apply past_any (fun v w' => ∃ A c, v = .slice A ra.length c ∧ OwnF FSp 77 w' w4.heap.size v ra)
      · rfl
      · exact fun v x y ⟨A, c, e, ho⟩ hle => ⟨A, c, e, ho.below hle⟩
      · intro x hF Qx hQ'
        have hQ := Lib.hid hQ'; clear hQ' hF
        have hd := RPks.tloc.below HD.out x.ok (by omega)
        have hsz := x.ok.size
        go_wp2_with fail
        refine (implIndexOf_any (xs.drop kk) _ _ _ _ (by omega) hd (by omega) ra HA.out).mono ?_
        rintro e w5 ⟨v5, rfl, o5, b5⟩
        obtain ⟨A5, c5, rfl⟩ := o5.form
        go_wp2_with fail
        exact hQ.out _ _ b5 ⟨_, _, rfl, o5.base hsz⟩
      intro v3
      simp only [Act.put, List.setIfInBounds_toArray, List.set_cons_zero, List.set_cons_succ]
      apply past_any (fun v w' => ∃ A c, v = .slice A rb.length c ∧ OwnF FSp 77 w' w4.heap.size v rb)
      · rfl
      · exact fun v x y ⟨A, c, e, ho⟩ hle => ⟨A, c, e, ho.below hle⟩
      · intro x hF Qx hQ'
        have hQ := Lib.hid hQ'; clear hQ' hF
        have hd := RPks.tloc.below HT.out x.ok (by omega)
        have hsz := x.ok.size
        go_wp2_with fail
        refine (implIndexOf_any (xs.take kk) _ _ _ _ (by omega) hd (by omega) rb HB.out).mono ?_
        rintro e w5 ⟨v5, rfl, o5, b5⟩
        obtain ⟨A5, c5, rfl⟩ := o5.form
        go_wp2_with fail
        exact hQ.out _ _ b5 ⟨_, _, rfl, o5.base hsz⟩
      intro v7
      simp only [Act.put, List.setIfInBounds_toArray, List.set_cons_zero, List.set_cons_succ]
      apply past_any (fun v w' => ∃ A c, v = .slice A r.length c ∧ OwnF FSp 77 w' w4.heap.size v r)
      · rfl
      · exact fun v x y ⟨A, c, e, ho⟩ hle => ⟨A, c, e, ho.below hle⟩
      · intro x hF Qx hQ'
        have hQ := Lib.hid hQ'; clear hQ'
        obtain ⟨A7, c7, rfl, o7⟩ := hF.1 (by kernel_rfl)
        obtain ⟨A6, c6, rfl, o6⟩ := hF.2.1 (by kernel_rfl)
        clear hF
        have hsz := x.ok.size
        go_wp2_with fail
        refine (implIndexMerge_any ra rb _ _ x.to w4.heap.size _ (Nat.le_refl _) (o6.sl HGA.out (Nat.le_refl _)) (o7.sl HGB.out (Nat.le_refl _)) (by omega) r HM.out).mono ?_
        rintro e w5 ⟨v5, rfl, o5, b5⟩
        obtain ⟨A5, c5, rfl⟩ := o5.form
        go_wp2_with fail
        exact hQ.out _ _ b5 ⟨_, _, rfl, o5.base hsz⟩
      intro v8
      simp only [Act.put, List.setIfInBounds_toArray, List.set_cons_zero, List.set_cons_succ]
      apply past_fix (.bool true)
      · intro x hF Qx hQ'
        have hQ := Lib.hid hQ'; clear hQ'
        obtain ⟨A8, c8, rfl, o8⟩ := hF.1 (by kernel_rfl)
        clear hF
        have o4 := o24.below x.ok
        go_wp2_with fail
        refine (ldIndex_any r r _ _ x.to w1.heap.size _ (Nat.le_refl _) ((o8.base (by omega)).sl GM.out (Nat.le_refl _)) (o4.sl GM.out (Nat.le_refl _)) true (by simp)).mono ?_
        rintro e w6 ⟨rfl, b6⟩
        go_wp2_with fail
        exact hQ.out _ b6
      simp only [Act.put, List.setIfInBounds_toArray, List.set_cons_zero, List.set_cons_succ]
      refine past_end ?_
      intro w6 hb6 xx hxx hF
      dsimp only [allF] at hF
      try rw [hxx] at hF
      clear hxx xx
      simp only [List.drop]
      go_wp2_with fail
      go_ret
      exact ⟨rfl, below_below bb4 hb6⟩
  · have t1 : decide (0 < (xs.length : Int)) = false := decide_eq_false (by omega)
    have hkk := HKK.out
    go_wp2_with fail
    have HALL : Hid (∀ s ∈ spots xs, spP s) := Lib.hid (ip_all HIX.out fun x hx => by have := lt_of_some hx; omega)
    rw [hkk]
    clear hkk
    have g1 : ¬ ((kk : Int) < 0) := by omega
    have g2 : (kk : Int) ≤ (xs.length : Int) := by omega
    obtain ⟨_, hcc1, hcc2⟩ := hx4.len_
    unfold maxLen at hcc2
    have g3 : (kk : Int) ≤ (c1 : Int) := by omega
    have HD := Lib.hid (hx4.drop_ (k := kk) hkl)
    have HT := Lib.hid (hx4.take_ (k := kk) hkl)
    obtain ⟨ra, rb, hra, hrb, hmg⟩ := ip_law HALL.out HR.out kk
    have HA := Lib.hid hra; clear hra
    have HB := Lib.hid hrb; clear hrb
    have HM := Lib.hid hmg; clear hmg
    have hla := Nat.le_trans HA.out.len (spots_len (l := xs.drop kk) (n := 3) (fun x hx => (HIX.out.1 x (List.mem_of_mem_drop hx)).2.2.2) (by rw [List.length_drop]; omega))
    have hlb := Nat.le_trans HB.out.len (spots_len (l := xs.take kk) (n := 3) (fun x hx => (HIX.out.1 x (List.mem_of_mem_take hx)).2.2.2) (by rw [List.length_take]; omega))
    have hsd := (spots_len (l := xs.drop kk) (n := 3) (fun x hx => (HIX.out.1 x (List.mem_of_mem_drop hx)).2.2.2) (by rw [List.length_drop]; omega))
    have hst := (spots_len (l := xs.take kk) (n := 3) (fun x hx => (HIX.out.1 x (List.mem_of_mem_take hx)).2.2.2) (by rw [List.length_take]; omega))
    have HGA := Lib.hid (sp_good HA.out.ix)
    have HGB := Lib.hid (sp_good HB.out.ix)
    refine region_pastT 11 [0, 1, 2, 4, 5, 6, 9] [3, 7, 8, 10] (by kernel_rfl) (by kernel_rfl) (by kernel_rfl) ?_
    simp only [pick, List.map, List.getD_cons_zero, List.getD_cons_succ]
    repeat (go_big_quiet_step (fail))
    refine wpQuiet_nil ?_
    generalize (if c1 = kk then A1 else Option.map (fun x => x.add (kk * 2)) A1) = AD at *
    clear g1 g2 g3
    apply Exists.intro
    apply past_any (fun v w' => ∃ A c, v = .slice A ra.length c ∧ OwnF FSp 77 w' w4.heap.size v ra)
    · rfl
    · exact fun v x y ⟨A, c, e, ho⟩ hle => ⟨A, c, e, ho.below hle⟩
    · intro x hF Qx hQ'
      have hQ := Lib.hid hQ'; clear hQ' hF
      have hd := RPks.tloc.below HD.out x.ok (by omega)
      have hsz := x.ok.size
      go_wp2_with fail
      refine (implIndexOf_any (xs.drop kk) _ _ _ _ (by omega) hd (by omega) ra HA.out).mono ?_
      rintro e w5 ⟨v5, rfl, o5, b5⟩
      obtain ⟨A5, c5, rfl⟩ := o5.form
      go_wp2_with fail
      exact hQ.out _ _ b5 ⟨_, _, rfl, o5.base hsz⟩
    intro v3
    simp only [Act.put, List.setIfInBounds_toArray, List.set_cons_zero, List.set_cons_succ]
    apply past_any (fun v w' => ∃ A c, v = .slice A rb.length c ∧ OwnF FSp 77 w' w4.heap.size v rb)
    · rfl
    · exact fun v x y ⟨A, c, e, ho⟩ hle => ⟨A, c, e, ho.below hle⟩
    · intro x hF Qx hQ'
      have hQ := Lib.hid hQ'; clear hQ' hF
      have hd := RPks.tloc.below HT.out x.ok (by omega)
      have hsz := x.ok.size
      go_wp2_with fail
      refine (implIndexOf_any (xs.take kk) _ _ _ _ (by omega) hd (by omega) rb HB.out).mono ?_
      rintro e w5 ⟨v5, rfl, o5, b5⟩
      obtain ⟨A5, c5, rfl⟩ := o5.form
      go_wp2_with fail
      exact hQ.out _ _ b5 ⟨_, _, rfl, o5.base hsz⟩
    intro v7
    simp only [Act.put, List.setIfInBounds_toArray, List.set_cons_zero, List.set_cons_succ]
    apply past_any (fun v w' => ∃ A c, v = .slice A r.length c ∧ OwnF FSp 77 w' w4.heap.size v r)
    · rfl
    · exact fun v x y ⟨A, c, e, ho⟩ hle => ⟨A, c, e, ho.below hle⟩
    · intro x hF Qx hQ'
      have hQ := Lib.hid hQ'; clear hQ'
      obtain ⟨A7, c7, rfl, o7⟩ := hF.1 (by kernel_rfl)
      obtain ⟨A6, c6, rfl, o6⟩ := hF.2.1 (by kernel_rfl)
      clear hF
      have hsz := x.ok.size
      go_wp2_with fail
      refine (implIndexMerge_any ra rb _ _ x.to w4.heap.size _ (Nat.le_refl _) (o6.sl HGA.out (Nat.le_refl _)) (o7.sl HGB.out (Nat.le_refl _)) (by omega) r HM.out).mono ?_
      rintro e w5 ⟨v5, rfl, o5, b5⟩
      obtain ⟨A5, c5, rfl⟩ := o5.form
      go_wp2_with fail
      exact hQ.out _ _ b5 ⟨_, _, rfl, o5.base hsz⟩
    intro v8
    simp only [Act.put, List.setIfInBounds_toArray, List.set_cons_zero, List.set_cons_succ]
    apply past_fix (.bool true)
    · intro x hF Qx hQ'
      have hQ := Lib.hid hQ'; clear hQ'
      obtain ⟨A8, c8, rfl, o8⟩ := hF.1 (by kernel_rfl)
      clear hF
      have o4 := o24.below x.ok
      go_wp2_with fail
      refine (ldIndex_any r r _ _ x.to w1.heap.size _ (Nat.le_refl _) ((o8.base (by omega)).sl GM.out (Nat.le_refl _)) (o4.sl GM.out (Nat.le_refl _)) true (by simp)).mono ?_
      rintro e w6 ⟨rfl, b6⟩
      go_wp2_with fail
      exact hQ.out _ b6
    simp only [Act.put, List.setIfInBounds_toArray, List.set_cons_zero, List.set_cons_succ]
    refine past_end ?_
    intro w6 hb6 xx hxx hF
    dsimp only [allF] at hF
    try rw [hxx] at hF
    clear hxx xx
    simp only [List.drop]
    go_wp2_with fail
    go_ret
    exact ⟨rfl, below_below bb4 hb6⟩
set_option maxRecDepth 100000 in
theorem lifted (os : Os) (started : os.Started) (H : Type) (enc : TypeId × Value → H) :
    ReturnsInHanded {} Try.checked os 4 .any (Rows.fnIndexPacksSpec.pre6 enc Try.prog Try.f4 Rows.fnIndexPacksRow.domain false) (Rows.fnIndexPacksSpec.post enc Try.prog Try.f4 false true false false) := by
  refine law_lifted own started (by kernel_rfl) Try.func4 laidOut (by kernel_rfl) rfl Try.underlying4 rfl (fun ds hl => ?_)
    (ChangeSpec.witness6 (enc := enc) (C := Try.checked) false ⟨#[], #[.slice none 0 0, .slice none 0 0], []⟩ 8 (by kernel_rfl) (by kernel_rfl) (by kernel_rfl) (by kernel_rfl)) ?_
  · match ds, hl with
    | [_, _], _ => rfl
  intro W base args ds p hval0 hA hlt hsz hsh
  have hval : ∀ (j : Nat) t v, Try.f4.params[j]? = some t → args[j]? = some v → Value.okWide Try.prog W .any base t v := hval0
  rw [Try.params4] at hA hval
  obtain ⟨v0, v1, d0, d1, p0, p1, rfl, rfl, rfl, h0, h1⟩ := trodAll_two hA
  obtain ⟨a0_0, r0⟩ := open_byte_slice (hval 0 33 v0 rfl rfl) h0 (by first | exact hlt | exact fun x hx => hlt x (by simp [hx]))
  obtain ⟨a1_0, r1⟩ := open_byte_slice (hval 1 33 v1 rfl rfl) h1 (by first | exact hlt | exact fun x hx => hlt x (by simp [hx]))
  exact walk a0_0 r0 a1_0 r1 W

set_option maxRecDepth 100000 in
theorem factsHold : joinedFacts Try.pinned.checked.prog 4 Try.f4 Rows.fnIndexPacksSpec Rows.fnIndexPacksRow = true := by
  unfold joinedFacts
  rw [liftsFinal, mayEnter, makeIs]
  kernel_rfl
set_option maxRecDepth 100000 in
theorem proved : Rows.FnIndexPacksSaid :=
  OpenClaim.holds_of_wide 4 Try.f4 rfl rfl rfl rfl rfl rfl rfl ⟨rfl, rfl, rfl, rfl, rfl⟩ rfl rfl rfl rfl rfl (by kernel_rfl) Try.func4 factsHold
    (of_decide_eq_true (by kernel_rfl)) (by unfold Func.isWrapper; first | (rw [if_pos (by decide +kernel)]; kernel_rfl) | (rw [if_neg (by decide +kernel)]; exact ⟨rfl, rfl⟩))
    (fun os started H enc _ => lifted os started H enc)
#print axioms proved
end Go.Proofs.Ytanppokbjladfaa.lawip
