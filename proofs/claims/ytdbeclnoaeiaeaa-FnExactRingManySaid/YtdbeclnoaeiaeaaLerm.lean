
/- The law FnExactRingMany: for every ring and machine the program's RingMany returns what the reference's returns, and leaves its argument as it was. No condition. -/
import Derived.Test.YtdbeclnoaeiaeaaOpRing
import Derived.Test.YtdbeclnoaeiaeaaHeard
import Derived.Test.YtdbeclnoaeiaeaaEnter
import Derived.Test.YtdbeclnoaeiaeaaMake
namespace Go.Proofs.Ytdbeclnoaeiaeaa.lawerm
open Go.RowKit Go.ChangeShapes Go.WideShapes Go.ChangeAt

theorem walk (r : Rg) {v : Value} {w : World} (hr : RRing w 0 w.heap.size r v) (m : Int) (_ : In64 m) (w' : World) (hw : w' = w := by rfl) :
    Calls Try.prog 8 #[v, .int .i64 m] w' fun e w' => e = .returned (.bool true) ∧ Below w.heap.size w w' := by
  subst hw
  obtain ⟨va, vb, rfl, ha, hb⟩ := hr
  obtain ⟨A, c, rfl⟩ := ha.form
  obtain ⟨B, d, rfl⟩ := hb.form
  obtain ⟨bk, hbb⟩ := RMany_total r m
  have hbb := Lib.hid hbb
  have hg := Lib.hid (rg_good ha hb)
  go_enter Try.func8, Try.ntmps8
  go_wp2_with fail
  have hbw0 : Below w'.heap.size w' (w'.alloc (.cells #[.slice A r.keys.length c, .slice B r.grs.length d] 25)) := below_alloc _ _
  have k0 : Blk (w'.alloc (.cells #[.slice A r.keys.length c, .slice B r.grs.length d] 25)) (w'.heap.size) 25 #[.slice A r.keys.length c, .slice B r.grs.length d] := by
    have hk := Blk.new w' 25 #[.slice A r.keys.length c, .slice B r.grs.length d]
    exact hk
  have hsw0 : w'.heap.size + 1 ≤ (w'.alloc (.cells #[.slice A r.keys.length c, .slice B r.grs.length d] 25)).heap.size := by simp only [World.size_alloc]; omega
  generalize (w'.alloc (.cells #[.slice A r.keys.length c, .slice B r.grs.length d] 25)) = w0 at *
  have ck0 := k0.cell
  have fk0 := k0.frozen
  refine (szRing_any r _ _ _ _ _ (sl_keep RInt.loc ha hbw0 (Nat.le_refl _)) (sl_keep RGr.loc hb hbw0 (Nat.le_refl _))).mono ?_
  rintro e w1 ⟨⟨kk, rfl, hk⟩, b1⟩
  replace k0 := blk_keep k0 b1
  replace ck0 := k0.cell
  replace fk0 := k0.frozen
  replace hbw0 := below_below hbw0 b1
  by_cases hneg : kk < 0
  · go_wp2_with fail
    go_ret
    exact ⟨rfl, hbw0⟩
  have hszp : szP r := by
    rcases hk with h | h | h
    · omega
    · exact h.2
    · omega
  have HS := Lib.hid hszp
  clear hk hszp
  go_wp2_with fail
  refine (toRing_any r _ _ _ 0 w'.heap.size hbw0.size (sl_keep RInt.loc ha hbw0 (Nat.le_refl _)) (sl_keep RGr.loc hb hbw0 (Nat.le_refl _)) HS.out.1 HS.out.2).mono ?_
  rintro e w2 ⟨v1, v2, rfl, o1, bw2⟩
  obtain ⟨Av1, cv1, rfl⟩ := o1.keys.form
  obtain ⟨Av2, cv2, rfl⟩ := o1.grs.form
  replace k0 := blk_keep k0 bw2
  replace ck0 := k0.cell
  replace fk0 := k0.frozen
  replace hbw0 := below_below hbw0 bw2
  have q1 := o1.reads hg.out
  go_wp2_with fail
  refine (specRingMany_any r m _ _ _ _ _ (Nat.le_refl _) q1.1 q1.2 bk hbb.out).mono ?_
  rintro e w3 ⟨rfl, b3⟩
  replace k0 := blk_keep k0 b3
  replace ck0 := k0.cell
  replace fk0 := k0.frozen
  replace hbw0 := below_below hbw0 b3
  clear q1 o1
  go_wp2_with fail
  refine (toRing_any r _ _ _ 0 w'.heap.size hbw0.size (sl_keep RInt.loc ha hbw0 (Nat.le_refl _)) (sl_keep RGr.loc hb hbw0 (Nat.le_refl _)) HS.out.1 HS.out.2).mono ?_
  rintro e w4 ⟨v3, v4, rfl, o2, bw4⟩
  obtain ⟨Av3, cv3, rfl⟩ := o2.keys.form
  obtain ⟨Av4, cv4, rfl⟩ := o2.grs.form
  replace k0 := blk_keep k0 bw4
  replace ck0 := k0.cell
  replace fk0 := k0.frozen
  replace hbw0 := below_below hbw0 bw4
  go_wp2_with fail
  have hbwx : Below w4.heap.size w4 (w4.alloc (.cells #[.slice Av3 r.keys.length cv3, .slice Av4 r.grs.length cv4] 30)) := below_alloc _ _
  have m0 : Blk (w4.alloc (.cells #[.slice Av3 r.keys.length cv3, .slice Av4 r.grs.length cv4] 30)) (w4.heap.size) 30 #[.slice Av3 r.keys.length cv3, .slice Av4 r.grs.length cv4] := by
    have hk := Blk.new w4 30 #[.slice Av3 r.keys.length cv3, .slice Av4 r.grs.length cv4]
    exact hk
  have hswx : w4.heap.size + 1 ≤ (w4.alloc (.cells #[.slice Av3 r.keys.length cv3, .slice Av4 r.grs.length cv4] 30)).heap.size := by simp only [World.size_alloc]; omega
  generalize (w4.alloc (.cells #[.slice Av3 r.keys.length cv3, .slice Av4 r.grs.length cv4] 30)) = wx at *
  have cm0 := m0.cell
  have fm0 := m0.frozen
  replace k0 := blk_keep k0 hbwx
  replace ck0 := k0.cell
  replace fk0 := k0.frozen
  replace hbw0 := below_below hbw0 hbwx
  have q2 := (o2.below hbwx).reads hg.out
  go_wp2_with fail
  refine (implRingMany_any r m _ _ _ _ _ (Nat.le_refl _) q2.1 q2.2 bk hbb.out).mono ?_
  rintro e w5 ⟨rfl, b5⟩
  replace k0 := blk_keep k0 b5
  replace ck0 := k0.cell
  replace fk0 := k0.frozen
  replace m0 := blk_keep m0 b5
  replace cm0 := m0.cell
  replace fm0 := m0.frozen
  have o3 := (o2.below hbwx).below b5
  replace hbw0 := below_below hbw0 b5
  have hlt4 := m0.lt
  clear q2 o2 b5 hbwx bw4 b3 bw2 b1 hsw0
  go_wp2_with fail
  have fk := ck0 0
  have fk1 := ck0 1
  have fm := cm0 0
  have fm1 := cm0 1
  have past0 := past_cell fk
  have past1 := past_cell fk1
  have past2 := past_cell fm
  have past3 := past_cell fm1
  refine region_pastT 5 [0, 1] [2, 3, 4] (by kernel_rfl) (by kernel_rfl) (by kernel_rfl) ?_
  simp only [pick, List.map, List.getD_cons_zero, List.getD_cons_succ]
  repeat (go_big_quiet_step (fail))
  refine wpQuiet_nil ?_
  clear past0 past1 past2 past3
  apply Exists.intro
  apply past_any (fun v w' => ∃ va vb, v = .agg #[va, vb] ∧ OwnRg w' w5.heap.size va vb r)
  · rfl
  · exact fun v x y ⟨va, vb, e, h⟩ hle => ⟨va, vb, e, h.below hle⟩
  · intro x _ Qx hQ'
    have hQ := Lib.hid hQ'; clear hQ'
    go_wp2_with fail
    have hbx := below_below hbw0 x.ok
    refine (toRing_any r _ _ _ 0 w'.heap.size hbx.size (sl_keep RInt.loc ha hbx (Nat.le_refl _)) (sl_keep RGr.loc hb hbx (Nat.le_refl _)) HS.out.1 HS.out.2).mono ?_
    rintro e wy ⟨v5, v6, rfl, o5, by5⟩
    go_wp2_with fail
    exact hQ.out _ _ by5 ⟨v5, v6, rfl, o5.base x.ok.size⟩
  intro vr
  simp only [Act.put, List.setIfInBounds_toArray, List.set_cons_zero, List.set_cons_succ]
  apply past_fix (.bool true)
  · intro x hF Qx hQ'
    have hQ := Lib.hid hQ'; clear hQ'
    obtain ⟨v5, v6, rfl, o5⟩ := hF.1 (by kernel_rfl)
    go_wp2_with fail
    have o4 := (o3.below x.ok).reads hg.out
    have o6 := o5.reads hg.out
    refine (eqRing_any r r _ _ _ _ _ _ _ _ _ (Nat.le_refl _) (Nat.le_refl _) o4.1 o4.2 o6.1 o6.2 true (by simp)).mono ?_
    rintro e wy ⟨rfl, by5⟩
    go_wp2_with fail
    exact hQ.out _ by5
  simp only [Act.put, List.setIfInBounds_toArray, List.set_cons_zero, List.set_cons_succ]
  apply past_fix (.bool false)
  · intro x hF Qx hQ'
    have hQ := Lib.hid hQ'; clear hQ'
    go_wp2_with fail
    exact hQ.out _ (Below.refl _ _)
  simp only [Act.put, List.setIfInBounds_toArray, List.set_cons_zero, List.set_cons_succ]
  refine past_end ?_
  intro w2 hb2 x hx hF
  dsimp only [allF] at hF
  rw [hx] at hF
  clear hx x
  replace hbw0 := below_below hbw0 hb2
  simp only [List.drop]
  go_wp2_with fail
  go_ret
  exact ⟨rfl, hbw0⟩

set_option maxRecDepth 100000 in
theorem lifted (os : Os) (started : os.Started) (H : Type) (enc : TypeId × Value → H) :
    ReturnsInHanded {} Try.checked os 8 .any (Rows.fnExactRingManySpec.pre6 enc Try.prog Try.f8 Rows.fnExactRingManyRow.domain false) (Rows.fnExactRingManySpec.post enc Try.prog Try.f8 false true false false) := by
  refine law_lifted own started (by kernel_rfl) Try.func8 laidOut (by kernel_rfl) rfl Try.underlying4 rfl (fun ds hl => ?_)
    (ChangeSpec.witness6 (enc := enc) (C := Try.checked) false ⟨#[], #[.agg #[.slice none 0 0, .slice none 0 0], .int .i64 0], []⟩ 8 (by kernel_rfl) (by kernel_rfl) (by kernel_rfl) (by kernel_rfl)) ?_
  · match ds, hl with
    | [_, _], _ => rfl
  intro W base args ds p hval0 hA hlt hsz hsh
  have hval : ∀ (j : Nat) t v, Try.f8.params[j]? = some t → args[j]? = some v → Value.okWide Try.prog W .any base t v := hval0
  rw [Try.params8] at hA hval
  obtain ⟨v0, v1, d0, d1, p0, p1, rfl, rfl, rfl, h0, h1⟩ := trodAll_two hA
  obtain ⟨a0_0, r0⟩ := open_ring (hval 0 25 v0 rfl rfl) h0 (by first | exact hlt | exact fun x hx => hlt x (by simp [hx]))
  obtain ⟨a1, rfl, rfl, rfl, w1⟩ := open_int Try.underlying3 (hval 1 3 v1 rfl rfl) h1
  exact walk a0_0 r0 a1 (in64_of_wf w1) W

set_option maxRecDepth 100000 in
theorem factsHold : joinedFacts Try.pinned.checked.prog 8 Try.f8 Rows.fnExactRingManySpec Rows.fnExactRingManyRow = true := by
  unfold joinedFacts
  rw [liftsFinal, mayEnter, makeIs]
  kernel_rfl
set_option maxRecDepth 100000 in
theorem proved : Rows.FnExactRingManySaid :=
  OpenClaim.holds_of_wide 8 Try.f8 rfl rfl rfl rfl rfl rfl rfl ⟨rfl, rfl, rfl, rfl, rfl⟩ rfl rfl rfl rfl rfl (by kernel_rfl) Try.func8 factsHold
    (of_decide_eq_true (by kernel_rfl)) (by unfold Func.isWrapper; first | (rw [if_pos (by decide +kernel)]; kernel_rfl) | (rw [if_neg (by decide +kernel)]; exact ⟨rfl, rfl⟩))
    (fun os started H enc _ => lifted os started H enc)
#print axioms proved
end Go.Proofs.Ytdbeclnoaeiaeaa.lawerm
