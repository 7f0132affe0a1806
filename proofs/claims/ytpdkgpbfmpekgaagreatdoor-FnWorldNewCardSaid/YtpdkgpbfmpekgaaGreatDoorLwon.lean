


/- The law FnWorldNew. No condition. -/
import Derived.Test.YtpdkgpbfmpekgaaGreatDoorCardZ
import Derived.Test.YtpdkgpbfmpekgaaGreatDoorWo2
import Derived.Test.YtpdkgpbfmpekgaaGreatDoorHeard
import Derived.Test.YtpdkgpbfmpekgaaGreatDoorEnter
import Derived.Test.YtpdkgpbfmpekgaaGreatDoorMake
namespace Go.Proofs.YtpdkgpbfmpekgaaGreatDoor.lawwon
open Go.RowKit Go.ChangeShapes Go.WideShapes Go.ChangeAt Go.Conc
theorem lit2_own {w : World} {g base : Nat} (hk : Blk w g 3 #[.int .i64 0, .int .i64 0]) (hb : base ≤ g) : OwnF FInt 3 w base (.slice (some ⟨g, 0, none⟩) 2 2) [0, 0] :=
  ⟨rfl, .inr ⟨g, 2, #[.int .i64 0, .int .i64 0], rfl, hb, hk, Nat.le_refl _, by unfold maxLen; omega, rfl, rfl⟩⟩
set_option maxRecDepth 20000 in
set_option maxHeartbeats 4000000 in
theorem walk {w0 : World} (_ : laidMetH Tryz.prog laidL w0) (l : List Int) {v : Value} {w : World} (h : RSl RByte 1 w 0 w.heap.size l [v]) (w' : World) (hw : w' = w := by rfl) :
    Calls Tryz.prog 9 #[v] w' fun e w' => e = .returned (.bool true) ∧ Below w.heap.size w w' := by
  subst hw
  obtain ⟨A, c, rfl⟩ := h.form
  have hlen : l.length ≤ maxLen := by obtain ⟨_, h1, h2⟩ := h.len_; omega
  unfold maxLen at hlen
  by_cases hbig : 1048576 < l.length
  · go_enter Tryz.func9, Tryz.ntmps9
    go_wp2_with fail
    go_ret
    exact ⟨rfl, Below.refl _ _⟩
  go_enter Tryz.func9, Tryz.ntmps9
  go_wp2_with fail
  refine (drawWorldNew_any A _ c l _ h).mono ?_
  rintro e w1 ⟨k, rfl, hkb, bb⟩
  clear hlen hbig
  obtain ⟨ok, hok⟩ : ∃ ok : Bool, ok = true ↔ 1 ≤ k ∧ k ≤ 99 := ⟨decide (1 ≤ k ∧ k ≤ 99), by simp⟩
  have HOK := Lib.hid hok; clear hok
  obtain ⟨q, hq⟩ : ∃ q : Int, q = if ok then k else 0 := ⟨_, rfl⟩
  have HQ := Lib.hid hq; clear hq
  go_wp2_with fail
  refine (specWorldNew_c k ok HOK.out w1).mono ?_
  rintro e w2 ⟨v2, rfl, E2, b2⟩
  rw [← HQ.out] at E2
  have HE2 := Lib.hid E2
  obtain ⟨P, Q, R, A', B, K, F, rfl, o1, o2⟩ := E2
  obtain ⟨AK, cK, rfl⟩ := o1.form
  obtain ⟨AF, cF, rfl⟩ := o2.form
  replace bb := below_below bb b2
  clear b2 o1 o2
  go_wp2_with fail
  have hbw3 : Below w2.heap.size w2 (w2.alloc (.cells #[.int .i64 q, .slice P 0 0, .slice Q 0 0, .slice R 0 0, .slice A' 0 0, .slice B 0 0, .int .i64 0, .int .i64 0, .int .i64 0, .string ⟨#[]⟩, .slice AK (wks ok).length cK, .slice AF (wfs ok).length cF] 80)) := below_alloc _ _
  have k0 : Blk (w2.alloc (.cells #[.int .i64 q, .slice P 0 0, .slice Q 0 0, .slice R 0 0, .slice A' 0 0, .slice B 0 0, .int .i64 0, .int .i64 0, .int .i64 0, .string ⟨#[]⟩, .slice AK (wks ok).length cK, .slice AF (wfs ok).length cF] 80)) (w2.heap.size) 80 #[.int .i64 q, .slice P 0 0, .slice Q 0 0, .slice R 0 0, .slice A' 0 0, .slice B 0 0, .int .i64 0, .int .i64 0, .int .i64 0, .string ⟨#[]⟩, .slice AK (wks ok).length cK, .slice AF (wfs ok).length cF] := by
    have hk := Blk.new w2 80 #[.int .i64 q, .slice P 0 0, .slice Q 0 0, .slice R 0 0, .slice A' 0 0, .slice B 0 0, .int .i64 0, .int .i64 0, .int .i64 0, .string ⟨#[]⟩, .slice AK (wks ok).length cK, .slice AF (wfs ok).length cF]
    exact hk
  have hsw3 : w2.heap.size + 1 ≤ (w2.alloc (.cells #[.int .i64 q, .slice P 0 0, .slice Q 0 0, .slice R 0 0, .slice A' 0 0, .slice B 0 0, .int .i64 0, .int .i64 0, .int .i64 0, .string ⟨#[]⟩, .slice AK (wks ok).length cK, .slice AF (wfs ok).length cF] 80)).heap.size := by simp only [World.size_alloc]; omega
  generalize (w2.alloc (.cells #[.int .i64 q, .slice P 0 0, .slice Q 0 0, .slice R 0 0, .slice A' 0 0, .slice B 0 0, .int .i64 0, .int .i64 0, .int .i64 0, .string ⟨#[]⟩, .slice AK (wks ok).length cK, .slice AF (wfs ok).length cF] 80)) = w3 at *
  have ck0 := k0.cell
  have fk0 := k0.frozen
  have HE3 := Lib.hid (HE2.out.below hbw3)
  replace bb := below_below bb hbw3
  clear HE2
  refine (implWorldNew_c k ok HOK.out w3).mono ?_
  rintro e w4 ⟨v4, rfl, E4, b4⟩
  have HE4 := Lib.hid (HE3.out.below b4)
  rw [← HQ.out] at E4
  have HF4 := Lib.hid E4
  replace k0 := blk_keep k0 b4
  replace ck0 := k0.cell
  replace fk0 := k0.frozen
  replace bb := below_below bb b4
  clear HE3 b4 hbw3
  obtain ⟨P2, Q2, R2, A2, B2, K2, F2, rfl, o1, o2⟩ := E4
  obtain ⟨AK2, cK2, rfl⟩ := o1.form
  obtain ⟨AF2, cF2, rfl⟩ := o2.form
  clear o1 o2
  have ax := below_alloc w4 (.cells #[.int .i64 q, .slice P2 0 0, .slice Q2 0 0, .slice R2 0 0, .slice A2 0 0, .slice B2 0 0, .int .i64 0, .int .i64 0, .int .i64 0, .string ⟨#[]⟩, .slice AK2 (wks ok).length cK2, .slice AF2 (wfs ok).length cF2] 80)
  have ka := (blk_keep k0 ax).cell
  have km := (Blk.new w4 80 #[.int .i64 q, .slice P2 0 0, .slice Q2 0 0, .slice R2 0 0, .slice A2 0 0, .slice B2 0 0, .int .i64 0, .int .i64 0, .int .i64 0, .string ⟨#[]⟩, .slice AK2 (wks ok).length cK2, .slice AF2 (wfs ok).length cF2]).cell
  have H := Lib.hid (And.intro (blk_keep k0 ax) (And.intro (Blk.new w4 80 #[.int .i64 q, .slice P2 0 0, .slice Q2 0 0, .slice R2 0 0, .slice A2 0 0, .slice B2 0 0, .int .i64 0, .int .i64 0, .int .i64 0, .string ⟨#[]⟩, .slice AK2 (wks ok).length cK2, .slice AF2 (wfs ok).length cF2]) ax))
  clear ax k0 ck0 fk0
  cases ok with
  | false =>
    go_wp2_with fail
    obtain ⟨kx, mx, bx⟩ := H.out
    clear H ka km
    generalize w4.alloc (.cells #[.int .i64 q, .slice P2 0 0, .slice Q2 0 0, .slice R2 0 0, .slice A2 0 0, .slice B2 0 0, .int .i64 0, .int .i64 0, .int .i64 0, .string ⟨#[]⟩, .slice AK2 (wks false).length cK2, .slice AF2 (wfs false).length cF2] 80) = w5 at *
    have HE5 := Lib.hid (HE4.out.below bx)
    have HF5 := Lib.hid (HF4.out.below bx)
    replace bb := below_below bb bx
    clear bx HE4 HF4
    refine (ldWorld_em q false _ _ w5 _ _ HF5.out HE5.out).mono ?_
    rintro e w6 ⟨rfl, b6⟩
    have ck0 := (blk_keep kx b6).cell
    have cm0 := (blk_keep mx b6).cell
    have HE6 := Lib.hid (HE5.out.below b6)
    have HF6 := Lib.hid (HF5.out.below b6)
    have mx6 := blk_keep mx b6
    replace bb := below_below bb b6
    clear HE5 HF5 kx mx b6
    go_wp2_with fail
    refine (ldWorld_em q false _ _ w6 _ _ HF6.out HE6.out).mono ?_
    rintro e w7 ⟨rfl, b7⟩
    have hno : ¬ (1 ≤ k ∧ k ≤ 99) := fun h => by have := HOK.out.2 h; cases this
    clear ck0 cm0 mx6
    by_cases h1 : 1 ≤ k
    · have t1 : decide (1 ≤ k) = true := decide_eq_true h1
      have t2 : decide (k ≤ 99) = false := decide_eq_false (by omega)
      clear h1 hno hkb
      go_wp2_with fail
      go_ret
      exact ⟨rfl, below_below bb b7⟩
    · have t1 : decide (1 ≤ k) = false := decide_eq_false h1
      clear h1 hno hkb
      go_wp2_with fail
      go_ret
      exact ⟨rfl, below_below bb b7⟩
  | true =>
    go_wp2_with fail
    obtain ⟨kx, mx, bx⟩ := H.out
    clear H ka km
    generalize w4.alloc (.cells #[.int .i64 q, .slice P2 0 0, .slice Q2 0 0, .slice R2 0 0, .slice A2 0 0, .slice B2 0 0, .int .i64 0, .int .i64 0, .int .i64 0, .string ⟨#[]⟩, .slice AK2 (wks true).length cK2, .slice AF2 (wfs true).length cF2] 80) = w5 at *
    have HE5 := Lib.hid (HE4.out.below bx)
    have HF5 := Lib.hid (HF4.out.below bx)
    replace bb := below_below bb bx
    clear bx HE4 HF4
    refine (ldWorld_em q true _ _ w5 _ _ HF5.out HE5.out).mono ?_
    rintro e w6 ⟨rfl, b6⟩
    have ck0 := (blk_keep kx b6).cell
    have cm0 := (blk_keep mx b6).cell
    have HE6 := Lib.hid (HE5.out.below b6)
    have HF6 := Lib.hid (HF5.out.below b6)
    have mx6 := blk_keep mx b6
    replace bb := below_below bb b6
    clear HE5 HF5 kx mx b6
    have hk99 : 1 ≤ k ∧ k ≤ 99 := HOK.out.1 trivial
    have hqk : q = k := by have := HQ.out; simpa using this
    have HK99 : Hid (1 ≤ q ∧ q ≤ 99) := Lib.hid (hqk ▸ hk99)
    clear hk99 hqk
    go_wp2_with fail
    have f0 := cm0 0
    have f1 := cm0 1
    have f2 := cm0 2
    have f3 := cm0 3
    have f4 := cm0 4
    have f5 := cm0 5
    have f6 := cm0 6
    have f7 := cm0 7
    have f8 := cm0 8
    have f9 := cm0 9
    have f10 := cm0 10
    have f11 := cm0 11
    have past0 := past_cell f0
    have past1 := past_cell f1
    have past2 := past_cell f2
    have past3 := past_cell f3
    have past4 := past_cell f4
    have past5 := past_cell f5
    have past6 := past_cell f6
    have past7 := past_cell f7
    have past8 := past_cell f8
    have past9 := past_cell f9
    have past10 := past_cell f10
    have past11 := past_cell f11
    refine region_pastT 24 [0] [1, 2, 3, 4, 5, 6, 7, 8, 9, 10, 11, 12, 13, 14, 15, 16, 17, 18, 19, 20, 21, 22, 23] (by kernel_rfl) (by kernel_rfl) (by kernel_rfl) ?_
    simp only [pick, List.map, List.getD_cons_zero, List.getD_cons_succ]
    repeat (go_big_quiet_step (fail))
    refine wpQuiet_nil ?_
    clear past0 past1 past2 past3 past4 past5 past6 past7 past8 past9 past10 past11
    apply Exists.intro
    apply past_fix (.bool true)
    · intro y hF Qx hQ'
      have hQ := Lib.hid hQ'; clear hQ' hF
      go_wp2_with fail
      refine (worldOk_em q HK99.out _ y.to _ (HF6.out.below y.ok)).mono ?_
      rintro e wy ⟨rfl, by5⟩
      go_wp2_with fail
      exact hQ.out _ by5
    simp only [Act.put, List.setIfInBounds_toArray, List.set_cons_zero, List.set_cons_succ]
    apply past_fix (.bool true)
    · intro y hF Qx hQ'
      have hQ := Lib.hid hQ'; clear hQ' hF
      go_wp2_with fail
      exact hQ.out _ (Below.refl _ _)
    simp only [Act.put, List.setIfInBounds_toArray, List.set_cons_zero, List.set_cons_succ]
    apply past_fix (.pointer (some ⟨w4.heap.size, 1, none⟩))
    · intro y hF Qx hQ'
      have hQ := Lib.hid hQ'; clear hQ' hF
      go_wp2_with fail
      exact hQ.out _ (Below.refl _ _)
    simp only [Act.put, List.setIfInBounds_toArray, List.set_cons_zero, List.set_cons_succ]
    apply past_fix (.pointer (some ⟨w4.heap.size, 1, none⟩))
    · intro y hF Qx hQ'
      have hQ := Lib.hid hQ'; clear hQ' hF
      go_wp2_with fail
      exact hQ.out _ (Below.refl _ _)
    simp only [Act.put, List.setIfInBounds_toArray, List.set_cons_zero, List.set_cons_succ]
    apply past_fix (.agg #[.slice P2 0 0, .slice Q2 0 0, .slice R2 0 0])
    · intro y hF Qx hQ'
      have hQ := Lib.hid hQ'; clear hQ' hF
      have c1 := cell_keep y.ok f1
      have c2 := cell_keep y.ok f2
      have c3 := cell_keep y.ok f3
      go_wp2_with fail
      exact hQ.out _ (Below.refl _ _)
    simp only [Act.put, List.setIfInBounds_toArray, List.set_cons_zero, List.set_cons_succ]
    apply past_fix (.int .i64 0)
    · intro y hF Qx hQ'
      have hQ := Lib.hid hQ'; clear hQ' hF
      go_wp2_with fail
      refine (storeMany_em P2 Q2 R2 y.to).mono ?_
      rintro e wy ⟨rfl, by5⟩
      go_wp2_with fail
      exact hQ.out _ by5
    simp only [Act.put, List.setIfInBounds_toArray, List.set_cons_zero, List.set_cons_succ]
    apply past_fix (.bool true)
    · intro y hF Qx hQ'
      have hQ := Lib.hid hQ'; clear hQ' hF
      go_wp2_with fail
      exact hQ.out _ (Below.refl _ _)
    simp only [Act.put, List.setIfInBounds_toArray, List.set_cons_zero, List.set_cons_succ]
    apply past_fix (.bool true)
    · intro y hF Qx hQ'
      have hQ := Lib.hid hQ'; clear hQ' hF
      go_wp2_with fail
      exact hQ.out _ (Below.refl _ _)
    simp only [Act.put, List.setIfInBounds_toArray, List.set_cons_zero, List.set_cons_succ]
    apply past_fix (.bool true)
    · intro y hF Qx hQ'
      have hQ := Lib.hid hQ'; clear hQ' hF
      go_wp2_with fail
      exact hQ.out _ (Below.refl _ _)
    simp only [Act.put, List.setIfInBounds_toArray, List.set_cons_zero, List.set_cons_succ]
    apply past_fix (.pointer (some ⟨w4.heap.size, 11, none⟩))
    · intro y hF Qx hQ'
      have hQ := Lib.hid hQ'; clear hQ' hF
      go_wp2_with fail
      exact hQ.out _ (Below.refl _ _)
    simp only [Act.put, List.setIfInBounds_toArray, List.set_cons_zero, List.set_cons_succ]
    apply past_fix (.slice AF2 (wfs true).length cF2)
    · intro y hF Qx hQ'
      have hQ := Lib.hid hQ'; clear hQ' hF
      have c1 := cell_keep y.ok f11
      have c2 := cell_keep y.ok f2
      have c3 := cell_keep y.ok f3
      go_wp2_with fail
      exact hQ.out _ (Below.refl _ _)
    simp only [Act.put, List.setIfInBounds_toArray, List.set_cons_zero, List.set_cons_succ]
    apply past_any (fun v w' => ∃ g, v = .slice (some ⟨g, 0, none⟩) 2 2 ∧ w6.heap.size ≤ g ∧ Blk w' g 3 #[.int .i64 0, .int .i64 0])
    · rfl
    · exact fun v x y ⟨g, e, hg, hk⟩ hle => ⟨g, e, hg, blk_keep hk hle⟩
    · intro y hF Qx hQ'
      have hQ := Lib.hid hQ'; clear hQ' hF
      go_wp2_with fail
      exact hQ.out _ _ (below_alloc _ _) ⟨_, rfl, y.ok.size, Blk.new _ _ _⟩
    intro u66
    simp only [Act.put, List.setIfInBounds_toArray, List.set_cons_zero, List.set_cons_succ]
    apply past_fix (.bool true)
    · intro y hF Qx hQ'
      have hQ := Lib.hid hQ'; clear hQ'
      obtain ⟨g, rfl, hg, hkg⟩ := hF.1 (by kernel_rfl)
      clear hF
      have o9 := lit2_own hkg (Nat.zero_le g)
      obtain ⟨Px, Qx1, Rx, Ax, Bx, Kx, Fx, ev, ox1, ox2⟩ := HF6.out.below y.ok
      simp only [Value.agg.injEq, Array.mk.injEq, List.cons.injEq, and_true] at ev
      obtain ⟨-, -, -, -, -, -, -, -, -, -, eK, eF⟩ := ev
      rw [← eF] at ox2
      have hgx : ∀ z ∈ wfs true, In64 z := fun z hz => wfs_gd true z hz
      have i1 := ox2.sl hgx (Nat.le_refl _)
      have i2 := o9.sl (fun z hz => wfs_gd true z hz) (Nat.le_refl _)
      clear ox1 ox2 o9 hkg eK eF
      go_wp2_with fail
      refine (ldInts_b (wfs true) [0, 0] _ _ y.to _ _ _ _ i1 i2 true (by simp [wfs])).mono ?_
      rintro e wy ⟨rfl, by5⟩
      go_wp2_with fail
      exact hQ.out _ by5
    simp only [Act.put, List.setIfInBounds_toArray, List.set_cons_zero, List.set_cons_succ]
    apply past_fix (.bool true)
    · intro y hF Qx hQ'
      have hQ := Lib.hid hQ'; clear hQ' hF
      go_wp2_with fail
      exact hQ.out _ (Below.refl _ _)
    simp only [Act.put, List.setIfInBounds_toArray, List.set_cons_zero, List.set_cons_succ]
    apply past_fix (.bool true)
    · intro y hF Qx hQ'
      have hQ := Lib.hid hQ'; clear hQ' hF
      go_wp2_with fail
      exact hQ.out _ (Below.refl _ _)
    simp only [Act.put, List.setIfInBounds_toArray, List.set_cons_zero, List.set_cons_succ]
    apply past_fix (.agg #[.int .i64 q, .slice P2 0 0, .slice Q2 0 0, .slice R2 0 0, .slice A2 0 0, .slice B2 0 0, .int .i64 0, .int .i64 0, .int .i64 0, .string ⟨#[]⟩, .slice AK2 (wks true).length cK2, .slice AF2 (wfs true).length cF2])
    · intro y hF Qx hQ'
      have hQ := Lib.hid hQ'; clear hQ' hF
      have cmy := (blk_keep mx6 y.ok).cell
      go_wp2_with fail
      exact hQ.out _ (Below.refl _ _)
    simp only [Act.put, List.setIfInBounds_toArray, List.set_cons_zero, List.set_cons_succ]
    apply past_any (fun v w' => ∃ va vb vc, v = .agg #[va, vb, vc] ∧ SEm w' va vb vc)
    · rfl
    · exact fun v x y ⟨va, vb, vc, e, h⟩ hle => ⟨va, vb, vc, e, rsto_em h⟩
    · intro y hF Qx hQ'
      have hQ := Lib.hid hQ'; clear hQ' hF
      go_wp2_with fail
      refine (worldShown_em q HK99.out _ y.to _ (HF6.out.below y.ok)).mono ?_
      rintro e wy ⟨va, vb, vc, rfl, hs, by5⟩
      go_wp2_with fail
      exact hQ.out _ _ by5 ⟨va, vb, vc, rfl, hs⟩
    intro u71
    simp only [Act.put, List.setIfInBounds_toArray, List.set_cons_zero, List.set_cons_succ]
    apply past_fix (.pointer (some ⟨w4.heap.size, 1, none⟩))
    · intro y hF Qx hQ'
      have hQ := Lib.hid hQ'; clear hQ' hF
      go_wp2_with fail
      exact hQ.out _ (Below.refl _ _)
    simp only [Act.put, List.setIfInBounds_toArray, List.set_cons_zero, List.set_cons_succ]
    apply past_fix (.pointer (some ⟨w4.heap.size, 1, none⟩))
    · intro y hF Qx hQ'
      have hQ := Lib.hid hQ'; clear hQ' hF
      go_wp2_with fail
      exact hQ.out _ (Below.refl _ _)
    simp only [Act.put, List.setIfInBounds_toArray, List.set_cons_zero, List.set_cons_succ]
    apply past_fix (.agg #[.slice P2 0 0, .slice Q2 0 0, .slice R2 0 0])
    · intro y hF Qx hQ'
      have hQ := Lib.hid hQ'; clear hQ' hF
      have c1 := cell_keep y.ok f1
      have c2 := cell_keep y.ok f2
      have c3 := cell_keep y.ok f3
      go_wp2_with fail
      exact hQ.out _ (Below.refl _ _)
    simp only [Act.put, List.setIfInBounds_toArray, List.set_cons_zero, List.set_cons_succ]
    apply past_fix (.bool true)
    · intro y hF Qx hQ'
      have hQ := Lib.hid hQ'; clear hQ'
      obtain ⟨va, vb, vc, rfl, hs⟩ := hF.1 (by kernel_rfl)
      clear hF
      go_wp2_with fail
      refine (ldStore_any ⟨[], [], []⟩ ⟨[], [], []⟩ _ _ _ _ _ _ y.to 0 0 0 0 hs (rsto0 P2 Q2 R2) (Nat.zero_le _) (Nat.zero_le _) true (by simp)).mono ?_
      rintro e wy ⟨rfl, by5⟩
      go_wp2_with fail
      exact hQ.out _ by5
    simp only [Act.put, List.setIfInBounds_toArray, List.set_cons_zero, List.set_cons_succ]
    apply past_fix (.bool true)
    · intro y hF Qx hQ'
      have hQ := Lib.hid hQ'; clear hQ' hF
      go_wp2_with fail
      exact hQ.out _ (Below.refl _ _)
    simp only [Act.put, List.setIfInBounds_toArray, List.set_cons_zero, List.set_cons_succ]
    apply past_fix (.bool true)
    · intro y hF Qx hQ'
      have hQ := Lib.hid hQ'; clear hQ' hF
      go_wp2_with fail
      exact hQ.out _ (Below.refl _ _)
    simp only [Act.put, List.setIfInBounds_toArray, List.set_cons_zero, List.set_cons_succ]
    refine past_end ?_
    intro w8 hb8 xx hxx hF
    dsimp only [allF] at hF
    try rw [hxx] at hF
    clear hxx xx
    simp only [List.drop]
    clear hF
    go_wp2_with fail
    go_ret
    exact ⟨rfl, below_below bb hb8⟩
set_option maxRecDepth 100000 in
theorem lifted (os : Os) (started : os.Started) (H : Type) (enc : TypeId × Value → H) :
    ReturnsInLeavingWide {} Tryz.checked os 9 .any (fun w args => (Rows.fnWorldNewSpec.pre enc Tryz.prog Tryz.f9 Rows.fnWorldNewRow.domain false w args ∧ laidMetH Tryz.prog laidL w) ∧ sizedMet enc Tryz.prog Tryz.f9 (OpenSpec.ofChange Rows.fnWorldNewSpec) false w args) (Rows.fnWorldNewSpec.post enc Tryz.prog Tryz.f9 false true false false) := by
  refine law_liftedZ (X := fun w _ => laidMetH Tryz.prog laidL w) (fun _ _ _ hh h => h.of_heap hh) own started (by kernel_rfl) Tryz.func9 laidOut (by kernel_rfl) rfl Tryz.underlying4 (by kernel_rfl) (fun ds gs hl hg => ?_)
    (ChangeSpec.witness_shaped (enc := enc) (C := Tryz.checked) (os := os) (X := fun w _ => laidMetH Tryz.prog laidL w) false (World.laidAll Tryz.prog os laidL) #[.slice none 0 0] 8 (World.laidAll_os _ _ _) (World.shaped_of_ZipB (by kernel_rfl) (by kernel_rfl)) (by kernel_rfl) (by kernel_rfl) (by kernel_rfl) (door_met os _)) ?_
  · match ds, hl, gs, hg with
    | [_], _, [_, _], _ => rfl
  intro W base args ds p hval0 hA hlt hX
  have hval : ∀ (j : Nat) t v, Tryz.f9.params[j]? = some t → args[j]? = some v → Value.okWide Tryz.prog W .any base t v := hval0
  rw [Tryz.params9] at hA hval
  obtain ⟨v0, d0, rfl, rfl, h0⟩ := trodAll_one hA
  obtain ⟨a0_0, r0⟩ := open_byte_slice (hval 0 22 v0 rfl rfl) h0 (by first | exact hlt | exact fun x hx => hlt x (by simp [hx]))
  exact walk hX a0_0 r0 W

set_option maxRecDepth 100000 in
theorem factsHold : joinedFacts Tryz.pinned.checked.prog 9 Tryz.f9 Rows.fnWorldNewSpec Rows.fnWorldNewRow = true := by
  unfold joinedFacts
  rw [liftsFinal, mayEnter, makeIs]
  kernel_rfl
set_option maxRecDepth 100000 in
theorem proved : Rows.FnWorldNewSaid :=
  OpenClaim.holds_of_wide_leaving 9 Tryz.f9 rfl rfl rfl rfl rfl rfl rfl ⟨rfl, rfl, rfl, rfl, rfl⟩ rfl rfl rfl rfl rfl (by kernel_rfl) Tryz.func9 factsHold
    (of_decide_eq_true (by kernel_rfl)) (by unfold Func.isWrapper; first | (rw [if_pos (by decide +kernel)]; kernel_rfl) | (rw [if_neg (by decide +kernel)]; exact ⟨rfl, rfl⟩))
    (fun os started H enc _ => lifted os started H enc)
set_option maxRecDepth 100000 in
theorem goes_ : true = Rows.fnWorldNewRow.goesBy Tryz.pinned.checked.prog := by kernel_rfl
set_option maxRecDepth 100000 in
theorem wf_ : Rows.fnWorldNewRow.wfByText (OpenSpec.ofChange Rows.fnWorldNewSpec) = true := by kernel_rfl
set_option maxRecDepth 100000 in
theorem named_ : Tryz.prog.funcNamed "loop.example/depositary/laws.FnWorldNew" = some 9 := by kernel_rfl
theorem wants_ : (Tryz.f9.params.toList.all fun u => !Tryz.prog.wantsStandIn u) = true := by kernel_rfl
theorem carded : Rows.FnWorldNewCardSaid :=
  card_goes .later [] [.data, .sentinel, .sentinel, .pinned] true (true, "87ac4b0deda0295dfa6c42f248ef01efaeb7b5edce4acd3048f11378fe746a0d") false
    proved (fun _ h => by cases h) wf_ (fun _ h => by cases h) fnWorldNew_row_tie rfl ⟨rfl, rfl⟩ mainIs_ rfl
    (fun f fn hf hfn => by
      obtain rfl : f = 9 := Option.some.inj (named_.symm.trans hf) |>.symm
      obtain rfl : fn = Tryz.f9 := (Option.some.inj (Tryz.func9.symm.trans hfn)).symm
      exact ⟨looks_, fun j t ht => by
        rw [Tryz.params9] at ht
        have hm : t ∈ Tryz.f9.params.toList := by have := Array.mem_of_getElem? ht; simpa [Tryz.params9] using this
        exact (show Tryz.prog.wantsStandIn t = false by simpa using List.all_eq_true.1 wants_ t hm)⟩)
    goes_
#print axioms carded
end Go.Proofs.YtpdkgpbfmpekgaaGreatDoor.lawwon
