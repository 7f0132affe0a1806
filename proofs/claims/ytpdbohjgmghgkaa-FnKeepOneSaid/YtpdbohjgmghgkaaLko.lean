


/- The law FnKeepOne: of one snapshot that, or none, is kept. No condition. -/
import Derived.Test.YtpdbohjgmghgkaaLaw
import Derived.Test.YtpdbohjgmghgkaaDrK
import Derived.Test.YtpdbohjgmghgkaaHeard
import Derived.Test.YtpdbohjgmghgkaaEnter
import Derived.Test.YtpdbohjgmghgkaaMake
namespace Go.Proofs.Ytpdbohjgmghgkaa.lawko
open Go.RowKit Go.ChangeShapes Go.WideShapes Go.ChangeAt

theorem st_one {w : World} {lo hi b off c : Nat} {x : St} (h1 : lo ≤ b) (h2 : b < hi) (h64 : In64 x.s ∧ In64 x.d) (hc0 : w.cell? ⟨b, off, none⟩ = some (.int .i64 x.s)) (hc1 : w.cell? ⟨b, off + 1, none⟩ = some (.int .i64 x.d)) (hc : 1 ≤ c) (hm : c ≤ maxLen) : RSl RSt 2 w lo hi [x] [.slice (some ⟨b, off, none⟩) 1 c] :=
  ⟨_, c, rfl, hc, hm, fun _ => ⟨b, off, rfl, h1, h2, fun i y hi => by
    match i, hi with
    | 0, hi =>
      cases hi
      refine ⟨[.int .i64 x.s, .int .i64 x.d], rfl, ⟨rfl, h64⟩, fun j u hu => ?_⟩
      match j, hu with
      | 0, hu => cases hu; exact hc0
      | 1, hu => cases hu; exact hc1
    | i + 1, hi => simp at hi⟩⟩
theorem lit1_own {w : World} {base : Nat} {v : Value} {x : Int} (h : Lit1 base 3 #[.int .i64 x] v w) : OwnF FInt 3 w base v [x] := by
  obtain ⟨g, rfl, hb, hk⟩ := h
  exact ⟨rfl, .inr ⟨g, 1, #[.int .i64 x], rfl, hb, hk, Nat.le_refl _, by unfold maxLen; omega, rfl, rfl⟩⟩
theorem kA_one (x : St) (a b c : Int) : kA [x] a b c = if 0 < a ∨ 0 < b ∨ 0 < c then [0] else [] := by
  have h := kA_new (l := [x]) (a := a) (b := b) (c := c) (by simp)
  have e : [x].length - 1 = 0 := rfl
  rw [e] at h
  have e2 : kA [x] a b c = if inAll [x] a b c 0 then [0] else [] := by
    unfold kA
    have : List.range [x].length = [0] := rfl
    rw [this, List.filter_cons]
    rfl
  rw [e2] at h ⊢
  cases hq : inAll [x] a b c 0 with
  | true => rw [hq] at h; simp only [if_true, List.mem_singleton, true_iff] at h; rw [if_pos h]; rfl
  | false => rw [hq] at h; simp only [Bool.false_eq_true, if_false, List.not_mem_nil, false_iff] at h; rw [if_neg h]; rfl
theorem kD_last {xs : List St} {k : Nat} (hk : xs.length = k + 1) : kD xs 0 1 = [k] := by
  rw [kD_zero, hk]
  have : k + 1 - (1 : Int).toNat = k := by omega
  rw [this, range_drop, if_pos (Nat.le_refl _), List.drop_eq_nil_of_le (by simp)]; rfl
set_option maxRecDepth 8000 in
set_option maxHeartbeats 8000000 in
theorem walk (l : List Int) {v : Value} {w : World} (h : RSl RByte 1 w 0 w.heap.size l [v]) (w' : World) (hw : w' = w := by rfl) :
    Calls Try.prog 10 #[v] w' fun e w' => e = .returned (.bool true) ∧ Below w.heap.size w w' := by
  subst hw
  obtain ⟨A, c, rfl⟩ := h.form
  have hlen : l.length ≤ maxLen := by obtain ⟨_, h1, h2⟩ := h.len_; omega
  unfold maxLen at hlen
  by_cases hbig : 1048576 < l.length
  · go_enter Try.func10, Try.ntmps10
    go_wp2_with fail
    go_ret
    exact ⟨rfl, Below.refl _ _⟩
  go_enter Try.func10, Try.ntmps10
  go_wp2_with fail
  refine (dDrawKeepAll_any l A _ c _ h).mono ?_
  rintro e w1 ⟨v1, xs, a, b, c9, rfl, o1, l1, g1, hr, bb⟩
  have G1 := Lib.hid g1; clear g1
  have h64 : In64 a ∧ In64 b ∧ In64 c9 := by unfold In64; omega
  obtain ⟨A1, c1, rfl⟩ := o1.form
  have z1 := bb.size
  obtain ⟨r, hR⟩ := KAllR_total xs a b c9
  have HR := Lib.hid hR; clear hR
  have HI := Lib.hid (KAllR_in64 HR.out)
  have HLR := KAllR_len HR.out
  go_wp2_with fail
  have hbw2 : Below w1.heap.size w1 (w1.alloc (.cells #[.int .i64 a, .int .i64 b, .int .i64 c9] 68)) := below_alloc _ _
  have k0 : Blk (w1.alloc (.cells #[.int .i64 a, .int .i64 b, .int .i64 c9] 68)) (w1.heap.size) 68 #[.int .i64 a, .int .i64 b, .int .i64 c9] := by
    have hk := Blk.new w1 68 #[.int .i64 a, .int .i64 b, .int .i64 c9]
    exact hk
  have hsw2 : w1.heap.size + 1 ≤ (w1.alloc (.cells #[.int .i64 a, .int .i64 b, .int .i64 c9] 68)).heap.size := by simp only [World.size_alloc]; omega
  generalize (w1.alloc (.cells #[.int .i64 a, .int .i64 b, .int .i64 c9] 68)) = w2 at *
  have ck0 := k0.cell
  have fk0 := k0.frozen
  replace o1 := o1.below hbw2
  replace bb := below_below bb hbw2
  have s1 := o1.sl G1.out (Nat.le_refl _)
  have hhi : w2.heap.size ≤ w2.heap.size := Nat.le_refl _
  clear o1
  refine (implKeepAll_any xs a b c9 h64 _ w2 _ _ (Nat.le_refl _) s1 r HR.out).mono ?_
  rintro e w3 ⟨vm, rfl, om, b3⟩
  obtain ⟨Am, cm, rfl⟩ := om.form
  replace k0 := blk_keep k0 b3
  replace ck0 := k0.cell
  replace fk0 := k0.frozen
  replace s1 := sl_keep RSt.loc s1 b3 hhi
  replace hhi := Nat.le_trans hhi (b3).size
  replace bb := below_below bb b3
  go_wp2_with fail
  refine (specKeepAll_any xs a b c9 h64 _ w3 _ _ hhi s1 r HR.out).mono ?_
  rintro e w4 ⟨vs, rfl, os, b4⟩
  obtain ⟨As, cs, rfl⟩ := os.form
  replace k0 := blk_keep k0 b4
  replace ck0 := k0.cell
  replace fk0 := k0.frozen
  replace s1 := sl_keep RSt.loc s1 b4 hhi
  replace hhi := Nat.le_trans hhi (b4).size
  try replace om := om.below b4
  replace bb := below_below bb b4
  go_wp2_with fail
  refine (ldInts_any r r _ _ w4 _ _ _ _ (om.sl HI.out (Nat.le_refl _)) (os.sl HI.out (Nat.le_refl _))).mono ?_
  rintro e w5 ⟨rfl, n5, h5⟩
  have b5 : Below w4.heap.size w4 w5 := h5 ▸ below_drewN (Below.refl w4.heap.size w4) n5
  clear h5 os
  replace k0 := blk_keep k0 b5
  replace ck0 := k0.cell
  replace fk0 := k0.frozen
  replace s1 := sl_keep RSt.loc s1 b5 hhi
  replace hhi := Nat.le_trans hhi (b5).size
  try replace om := om.below b5
  replace bb := below_below bb b5
  obtain ⟨q, hq⟩ := tell (stP xs)
  have t0 : decide (r = r) = true := by simp
  go_wp2_with fail
  refine (specStampsOk_any xs _ w5 _ _ hhi s1 q hq).mono ?_
  rintro e w6 ⟨rfl, b6⟩
  replace k0 := blk_keep k0 b6
  replace ck0 := k0.cell
  replace fk0 := k0.frozen
  replace s1 := sl_keep RSt.loc s1 b6 hhi
  replace hhi := Nat.le_trans hhi (b6).size
  try replace om := om.below b6
  replace bb := below_below bb b6
  cases q with
  | false =>
    have HQ := Lib.hid hq; clear hq
    go_wp2_with fail
    refine (specKeepAll_any xs a b c9 h64 _ w6 _ _ hhi s1 r HR.out).mono ?_
    rintro e w7 ⟨vs, rfl, os, b7⟩
    obtain ⟨As, cs, rfl⟩ := os.form
    replace om := om.below b7
    go_wp2_with fail
    refine (ldInts_any r r _ _ w7 _ _ _ _ (om.sl HI.out (Nat.le_refl _)) (os.sl HI.out (Nat.le_refl _))).mono ?_
    rintro e w8 ⟨rfl, n8, h8⟩
    have b8 : Below w7.heap.size w7 w8 := h8 ▸ below_drewN (Below.refl w7.heap.size w7) n8
    clear h8
    go_wp2_with fail
    go_ret
    exact ⟨rfl, below_below (below_below bb b7) b8⟩
  | true =>
    have H2 := Lib.hid (hq.1 rfl); clear hq
    by_cases h0 : xs.length = 0
    · have hr0 : r.length = 0 := by omega
      have t1 : (xs.length == 0) = true := beq_iff_eq.2 h0
      have t2 : ((xs.length : Int) == 0) = true := beq_iff_eq.2 (by omega)
      have t3 : (r.length == 0) = true := beq_iff_eq.2 hr0
      have t4 : ((r.length : Int) == 0) = true := beq_iff_eq.2 (by omega)
      go_wp2_with fail
      go_ret
      exact ⟨rfl, bb⟩
    · have t1 : (xs.length == 0) = false := beq_eq_false_iff_ne.2 h0
      have t2 : ((xs.length : Int) == 0) = false := beq_eq_false_iff_ne.2 (by omega)
      obtain ⟨k, hk⟩ : ∃ k, xs.length = k + 1 := ⟨xs.length - 1, by omega⟩
      have e1 : (xs.length : Int) - 1 = (k : Int) := by omega
      obtain ⟨x, hx⟩ := some_of_lt (l := xs) (k := k) (by omega)
      obtain ⟨bx, off, rfl, hbx1, hbx2, hx64, hcell, hcell1⟩ := st_at s1 hx
      have HX := Lib.hid hx; clear hx
      have hkl : k ≤ xs.length := by omega
      obtain ⟨_, hcl, hcm⟩ := s1.len_
      unfold maxLen at hcm
      have sx : RSl RSt 2 w6 w'.heap.size w2.heap.size [x] [.slice (some ⟨bx, off + k * 2, none⟩) 1 (c1 - k)] := st_one hbx1 hbx2 hx64 hcell hcell1 (by omega) (by unfold maxLen; omega)
      obtain ⟨r1, hr1⟩ : ∃ r1, r1 = if 0 < a ∨ 0 < b ∨ 0 < c9 then [x.s] else [] := ⟨_, rfl⟩
      have hPx : stP [x] := ⟨⟨fun y hy => by rw [List.mem_singleton.1 hy]; exact H2.out.1.1 x (List.mem_of_getElem? HX.out), List.pairwise_singleton _ _⟩, by simp⟩
      have hR1 : KAllR [x] a b c9 r1 := .inl ⟨hPx, by rw [hr1, kA_one]; by_cases hs : 0 < a ∨ 0 < b ∨ 0 < c9 <;> simp [hs, sn, snapAt]⟩
      have hlen1 : (r1.length : Int) = min (a + b + c9) 1 := by
        rw [hr1]
        by_cases hs : 0 < a ∨ 0 < b ∨ 0 < c9
        · rw [if_pos hs]; simp; omega
        · rw [if_neg hs]; simp; omega
      have HR1 := Lib.hid hR1; clear hR1 hr1
      have u9 : ((r1.length : Int) == min (a + b + c9) 1) = true := beq_iff_eq.2 hlen1
      have hP1 : KPart xs 0 1 [x.s] := .inl ⟨H2.out, by rw [kD_last hk]; simp [sn, snapAt_get HX.out]⟩
      have HP1 := Lib.hid hP1; clear hP1
      clear hlen1
      go_wp2_with fail
      have f0 := ck0 0
      have f1 := ck0 1
      have f2 := ck0 2
      have past0 := past_cell f0
      have past1 := past_cell f1
      have past2 := past_cell f2
      refine region_pastT 7 [0, 1, 2, 3, 4, 5] [6] (by kernel_rfl) (by kernel_rfl) (by kernel_rfl) ?_
      simp only [pick, List.map, List.getD_cons_zero, List.getD_cons_succ]
      repeat (go_big_quiet_step (fail))
      refine wpQuiet_nil ?_
      clear past0 past1 past2
      apply Exists.intro
      apply past_any (fun v w' => OwnF FInt 3 w' w6.heap.size v r1)
      · rfl
      · exact fun v x y h hle => h.below hle
      · intro y _ Qx hQ'
        have hQ := Lib.hid hQ'; clear hQ'
        go_wp2_with fail
        refine (implKeepAll_any [x] a b c9 h64 _ y.to _ _ (Nat.le_trans hhi y.ok.size) (sl_keep RSt.loc sx y.ok hhi) r1 HR1.out).mono ?_
        rintro e wy ⟨vy, rfl, oy, by_⟩
        go_wp2_with fail
        exact hQ.out _ _ by_ (oy.base y.ok.size)
      intro u46
      simp only [Act.put, List.setIfInBounds_toArray, List.set_cons_zero, List.set_cons_succ]
      refine past_end ?_
      intro w7 hb2 xx hxx hF
      dsimp only [allF] at hF
      try rw [hxx] at hF
      clear hxx xx
      obtain ⟨A7, c7, rfl⟩ := hF.1.form
      have o7 := hF.1
      clear hF
      simp only [List.drop]
      clear f0 f1 f2
      replace k0 := blk_keep k0 hb2
      replace ck0 := k0.cell
      replace fk0 := k0.frozen
      replace hcell := cell_keep hb2 hcell
      replace s1 := sl_keep RSt.loc s1 hb2 hhi
      rw [hk] at s1
      replace hhi := Nat.le_trans hhi hb2.size
      replace bb := below_below bb hb2
      go_wp2_with fail
      have f0 : w7.cell? ⟨w1.heap.size, 0, none⟩ = some (.int .i64 a) := ck0 0
      have f1 : w7.cell? ⟨w1.heap.size, 1, none⟩ = some (.int .i64 b) := ck0 1
      have f2 : w7.cell? ⟨w1.heap.size, 2, none⟩ = some (.int .i64 c9) := ck0 2
      have past0 := past_cell f0
      have past1 := past_cell f1
      have past2 := past_cell f2
      refine region_pastT 24 [0, 1, 2, 3, 4, 5, 6, 7, 8, 9] [10, 11, 12, 13, 14, 15, 16, 17, 18, 19, 20, 21, 22, 23] (by kernel_rfl) (by kernel_rfl) (by kernel_rfl) ?_
      simp only [pick, List.map, List.getD_cons_zero, List.getD_cons_succ]
      repeat (go_big_quiet_step (fail))
      refine wpQuiet_nil ?_
      clear past0 past1 past2
      apply Exists.intro
      apply past_fix (.int .i64 (min (a + b + c9) 1))
      · intro y hF Qx hQ'
        have hQ := Lib.hid hQ'; clear hQ' hF
        go_wp2_with fail
        exact hQ.out _ (Below.refl _ _)
      simp only [Act.put, List.setIfInBounds_toArray, List.set_cons_zero, List.set_cons_succ]
      apply past_fix (.bool true)
      · intro y hF Qx hQ'
        have hQ := Lib.hid hQ'; clear hQ' hF
        go_wp2_with fail
        exact hQ.out _ (Below.refl _ _)
      simp only [Act.put, List.setIfInBounds_toArray, List.set_cons_zero, List.set_cons_succ]
      apply past_fix (.bool true)
      · intro y hF Qx hQ'
        have hQ := Lib.hid hQ'; clear hQ' hF
        go_wp2_with fail
        exact hQ.out _ (Below.refl _ _)
      simp only [Act.put, List.setIfInBounds_toArray, List.set_cons_zero, List.set_cons_succ]
      apply past_fix (.slice (some ⟨bx, off, none⟩) (k + 1) c1)
      · intro y hF Qx hQ'
        have hQ := Lib.hid hQ'; clear hQ' hF
        go_wp2_with fail
        exact hQ.out _ (Below.refl _ _)
      simp only [Act.put, List.setIfInBounds_toArray, List.set_cons_zero, List.set_cons_succ]
      apply past_any (fun v w' => OwnF FInt 3 w' w7.heap.size v [x.s])
      · rfl
      · exact fun v x y h hle => h.below hle
      · intro y hF Qx hQ'
        have hQ := Lib.hid hQ'; clear hQ' hF
        go_wp2_with fail
        refine (implKeepLast_any xs 1 (by unfold In64; omega) _ y.to _ _ (Nat.le_trans hhi y.ok.size) (sl_keep RSt.loc s1 y.ok hhi) [x.s] HP1.out).mono ?_
        rintro e wy ⟨vy, rfl, oy, by_⟩
        go_wp2_with fail
        exact hQ.out _ _ by_ (oy.base y.ok.size)
      intro u61
      simp only [Act.put, List.setIfInBounds_toArray, List.set_cons_zero, List.set_cons_succ]
      apply past_fix (.slice (some ⟨bx, off, none⟩) (k + 1) c1)
      · intro y hF Qx hQ'
        have hQ := Lib.hid hQ'; clear hQ' hF
        go_wp2_with fail
        exact hQ.out _ (Below.refl _ _)
      simp only [Act.put, List.setIfInBounds_toArray, List.set_cons_zero, List.set_cons_succ]
      apply past_fix (.slice (some ⟨bx, off, none⟩) (k + 1) c1)
      · intro y hF Qx hQ'
        have hQ := Lib.hid hQ'; clear hQ' hF
        go_wp2_with fail
        exact hQ.out _ (Below.refl _ _)
      simp only [Act.put, List.setIfInBounds_toArray, List.set_cons_zero, List.set_cons_succ]
      apply past_fix (.int .i64 (k + 1))
      · intro y hF Qx hQ'
        have hQ := Lib.hid hQ'; clear hQ' hF
        go_wp2_with fail
        exact hQ.out _ (Below.refl _ _)
      simp only [Act.put, List.setIfInBounds_toArray, List.set_cons_zero, List.set_cons_succ]
      apply past_fix (.int .i64 k)
      · intro y hF Qx hQ'
        have hQ := Lib.hid hQ'; clear hQ' hF
        go_wp2_with fail
        exact hQ.out _ (Below.refl _ _)
      simp only [Act.put, List.setIfInBounds_toArray, List.set_cons_zero, List.set_cons_succ]
      apply past_fix (.pointer (some ⟨bx, off + k * 2, none⟩))
      · intro y hF Qx hQ'
        have hQ := Lib.hid hQ'; clear hQ' hF
        go_wp2_with fail
        exact hQ.out _ (Below.refl _ _)
      simp only [Act.put, List.setIfInBounds_toArray, List.set_cons_zero, List.set_cons_succ]
      apply past_fix (.pointer (some ⟨bx, off + k * 2, none⟩))
      · intro y hF Qx hQ'
        have hQ := Lib.hid hQ'; clear hQ' hF
        go_wp2_with fail
        exact hQ.out _ (Below.refl _ _)
      simp only [Act.put, List.setIfInBounds_toArray, List.set_cons_zero, List.set_cons_succ]
      apply past_fix (.int .i64 x.s)
      · intro y hF Qx hQ'
        have hQ := Lib.hid hQ'; clear hQ' hF
        have hcy := cell_keep y.ok hcell
        go_wp2_with fail
        exact hQ.out _ (Below.refl _ _)
      simp only [Act.put, List.setIfInBounds_toArray, List.set_cons_zero, List.set_cons_succ]
      apply past_any (Lit1 w7.heap.size 3 #[.int .i64 x.s])
      · rfl
      · exact fun v x y h hle => h.keep hle
      · intro x _ Qx hQ'
        have hQ := Lib.hid hQ'; clear hQ'
        go_wp2_with fail
        exact hQ.out _ _ (below_alloc _ _) (Lit1.new _ _ _ x.ok.size)
      intro u69
      simp only [Act.put, List.setIfInBounds_toArray, List.set_cons_zero, List.set_cons_succ]
      apply past_fix (.bool true)
      · intro y hF Qx hQ'
        have hQ := Lib.hid hQ'; clear hQ'
        have o9 := lit1_own (hF.1 (by kernel_rfl))
        have o8 := hF.2.1 (by kernel_rfl)
        clear hF
        obtain ⟨A8, c8, rfl⟩ := o8.form
        obtain ⟨A9, c9', rfl⟩ := o9.form
        have hgx : ∀ z ∈ [x.s], In64 z := fun z hz => by rw [List.mem_singleton.1 hz]; exact hx64.1
        have i1 := o8.sl hgx (Nat.le_refl _)
        have i2 := o9.sl hgx (Nat.le_refl _)
        go_wp2_with fail
        refine (ldInts_any [x.s] [x.s] _ _ y.to _ _ _ _ i1 i2).mono ?_
        rintro e wy ⟨rfl, n8, h8⟩
        have b8 : Below y.to.heap.size y.to wy := h8 ▸ below_drewN (Below.refl y.to.heap.size y.to) n8
        clear h8
        go_wp2_with fail
        exact hQ.out _ b8
      simp only [Act.put, List.setIfInBounds_toArray, List.set_cons_zero, List.set_cons_succ]
      refine past_end ?_
      intro w8 hb8 xx hxx hF
      dsimp only [allF] at hF
      try rw [hxx] at hF
      clear hxx xx
      simp only [List.drop]
      go_wp2_with fail
      go_ret
      exact ⟨rfl, below_below bb hb8⟩

set_option maxRecDepth 100000 in
theorem lifted (os : Os) (started : os.Started) (H : Type) (enc : TypeId × Value → H) :
    ReturnsInHanded {} Try.checked os 10 .any (Rows.fnKeepOneSpec.pre6 enc Try.prog Try.f10 Rows.fnKeepOneRow.domain false) (Rows.fnKeepOneSpec.post enc Try.prog Try.f10 false true false false) := by
  refine law_lifted own started (by kernel_rfl) Try.func10 laidOut (by kernel_rfl) rfl Try.underlying4 rfl (fun ds hl => ?_)
    (ChangeSpec.witness6 (enc := enc) (C := Try.checked) false ⟨#[], #[.slice none 0 0], []⟩ 8 (by kernel_rfl) (by kernel_rfl) (by kernel_rfl) (by kernel_rfl)) ?_
  · match ds, hl with
    | [_], _ => rfl
  intro W base args ds p hval0 hA hlt hsz hsh
  have hval : ∀ (j : Nat) t v, Try.f10.params[j]? = some t → args[j]? = some v → Value.okWide Try.prog W .any base t v := hval0
  rw [Try.params10] at hA hval
  obtain ⟨v0, d0, rfl, rfl, h0⟩ := trodAll_one hA
  obtain ⟨a0_0, r0⟩ := open_byte_slice (hval 0 30 v0 rfl rfl) h0 (by first | exact hlt | exact fun x hx => hlt x (by simp [hx]))
  exact walk a0_0 r0 W

set_option maxRecDepth 100000 in
theorem factsHold : joinedFacts Try.pinned.checked.prog 10 Try.f10 Rows.fnKeepOneSpec Rows.fnKeepOneRow = true := by
  unfold joinedFacts
  rw [liftsFinal, mayEnter, makeIs]
  kernel_rfl
set_option maxRecDepth 100000 in
theorem proved : Rows.FnKeepOneSaid :=
  OpenClaim.holds_of_wide 10 Try.f10 rfl rfl rfl rfl rfl rfl rfl ⟨rfl, rfl, rfl, rfl, rfl⟩ rfl rfl rfl rfl rfl (by kernel_rfl) Try.func10 factsHold
    (of_decide_eq_true (by kernel_rfl)) (by unfold Func.isWrapper; first | (rw [if_pos (by decide +kernel)]; kernel_rfl) | (rw [if_neg (by decide +kernel)]; exact ⟨rfl, rfl⟩))
    (fun os started H enc _ => lifted os started H enc)
#print axioms proved
end Go.Proofs.Ytpdbohjgmghgkaa.lawko
