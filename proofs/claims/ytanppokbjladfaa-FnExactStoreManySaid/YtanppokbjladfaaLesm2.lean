


/- The law FnExactStoreMany: for every store the program's StoreMany returns what the reference's returns, and leaves its argument as it was. No condition. -/
import Derived.Test.YtanppokbjladfaaLaw
import Derived.Test.YtanppokbjladfaaHeard
import Derived.Test.YtanppokbjladfaaEnter
import Derived.Test.YtanppokbjladfaaMake
import Derived.Test.YtanppokbjladfaaOpSto
import Derived.Test.YtanppokbjladfaaSm
namespace Go.Proofs.Ytanppokbjladfaa.lawesm2
open Go.RowKit Go.ChangeShapes Go.WideShapes Go.ChangeAt

set_option maxRecDepth 8000 in
set_option maxHeartbeats 4000000 in
theorem walk (s : Sto) {v : Value} {w : World} (hr : RStore w 0 w.heap.size s v) (w' : World) (hw : w' = w := by rfl) :
    Calls Try.prog 6 #[v] w' fun e w' => e = .returned (.bool true) ∧ Below w.heap.size w w' := by
  subst hw
  obtain ⟨va, vb, vc, rfl, h⟩ := hr
  obtain ⟨A, a, rfl⟩ := RSl.form h.pk
  obtain ⟨B, b, rfl⟩ := RSl.form h.sn
  obtain ⟨C, c, rfl⟩ := RSl.form h.lg
  go_enter Try.func6, Try.ntmps6
  go_wp2_with fail
  have hbw0 : Below w'.heap.size w' (w'.alloc (.cells #[.slice A s.pk.length a, .slice B s.sn.length b, .slice C s.lg.length c] 50)) := below_alloc _ _
  have k0 : Blk (w'.alloc (.cells #[.slice A s.pk.length a, .slice B s.sn.length b, .slice C s.lg.length c] 50)) (w'.heap.size) 50 #[.slice A s.pk.length a, .slice B s.sn.length b, .slice C s.lg.length c] := by
    have hk := Blk.new w' 50 #[.slice A s.pk.length a, .slice B s.sn.length b, .slice C s.lg.length c]
    exact hk
  have hsw0 : w'.heap.size + 1 ≤ (w'.alloc (.cells #[.slice A s.pk.length a, .slice B s.sn.length b, .slice C s.lg.length c] 50)).heap.size := by simp only [World.size_alloc]; omega
  generalize (w'.alloc (.cells #[.slice A s.pk.length a, .slice B s.sn.length b, .slice C s.lg.length c] 50)) = w0 at *
  have ck0 := k0.cell
  have fk0 := k0.frozen
  refine (szStore_any s _ _ _ 1048576 _ 0 w'.heap.size (h.below hbw0 (Nat.le_refl _)) hbw0.size (by omega) (by omega)).mono ?_
  rintro e w1 ⟨rfl, b1⟩
  replace k0 := blk_keep k0 b1
  replace ck0 := k0.cell
  replace fk0 := k0.frozen
  replace hbw0 := below_below hbw0 b1
  by_cases hbig : (1048576 : Int) - ((bSto s : Nat) : Int) < 0
  · rw [sub0_neg hbig]
    clear hbig
    go_wp2_with fail
    go_ret
    exact ⟨rfl, hbw0⟩
  have hb : bSto s ≤ 1048576 := by omega
  have HB := Lib.hid hb; clear hb
  rw [sub0_pos (by omega)]
  have hz : ∃ z : Int, z = 1048576 - ((bSto s : Nat) : Int) ∧ 0 ≤ z := ⟨_, rfl, by omega⟩
  obtain ⟨z, hz, hz0⟩ := hz
  rw [← hz]
  clear hz hbig
  have hcnt : cntS pkN s.pk ≤ 1048576 := by
    have h1 := cnt_bulk s.pk
    have h2 := HB.out
    unfold bSto at h2
    omega
  have HC := Lib.hid hcnt; clear hcnt
  go_wp2_with fail
  refine (toStore_any s _ _ _ _ 0 w'.heap.size (h.below hbw0 (Nat.le_refl _)) hbw0.size HB.out).mono ?_
  rintro e w2 ⟨v1, v2, v3, rfl, o1, b2⟩
  obtain ⟨A1, a1, rfl⟩ := ORow.form o1.pk
  obtain ⟨B1, b1', rfl⟩ := ORow.form o1.sn
  obtain ⟨C1, c1, rfl⟩ := ORow.form o1.lg
  replace k0 := blk_keep k0 b2
  replace ck0 := k0.cell
  replace fk0 := k0.frozen
  replace hbw0 := below_below hbw0 b2
  go_wp2_with fail
  refine (specStoreMany_any s.pk _ _ _ _ _ _ _ _ _ _ (OPks.t o1.pk) (Nat.le_refl _) (Nat.le_trans HC.out (by omega))).mono ?_
  rintro e w3 ⟨rfl, b3⟩
  replace k0 := blk_keep k0 b3
  replace ck0 := k0.cell
  replace fk0 := k0.frozen
  replace hbw0 := below_below hbw0 b3
  clear o1
  go_wp2_with fail
  refine (toStore_any s _ _ _ _ 0 w'.heap.size (h.below hbw0 (Nat.le_refl _)) hbw0.size HB.out).mono ?_
  rintro e w4 ⟨v4, v5, v6, rfl, o2, b4⟩
  obtain ⟨A2, a2, rfl⟩ := ORow.form o2.pk
  obtain ⟨B2, b2', rfl⟩ := ORow.form o2.sn
  obtain ⟨C2, c2, rfl⟩ := ORow.form o2.lg
  replace k0 := blk_keep k0 b4
  replace ck0 := k0.cell
  replace fk0 := k0.frozen
  replace hbw0 := below_below hbw0 b4
  go_wp2_with fail
  have hbw5 : Below w4.heap.size w4 (w4.alloc (.cells #[.slice A2 s.pk.length a2, .slice B2 s.sn.length b2', .slice C2 s.lg.length c2] 56)) := below_alloc _ _
  have m0 : Blk (w4.alloc (.cells #[.slice A2 s.pk.length a2, .slice B2 s.sn.length b2', .slice C2 s.lg.length c2] 56)) (w4.heap.size) 56 #[.slice A2 s.pk.length a2, .slice B2 s.sn.length b2', .slice C2 s.lg.length c2] := by
    have hk := Blk.new w4 56 #[.slice A2 s.pk.length a2, .slice B2 s.sn.length b2', .slice C2 s.lg.length c2]
    exact hk
  have hsw5 : w4.heap.size + 1 ≤ (w4.alloc (.cells #[.slice A2 s.pk.length a2, .slice B2 s.sn.length b2', .slice C2 s.lg.length c2] 56)).heap.size := by simp only [World.size_alloc]; omega
  generalize (w4.alloc (.cells #[.slice A2 s.pk.length a2, .slice B2 s.sn.length b2', .slice C2 s.lg.length c2] 56)) = w5 at *
  have cm0 := m0.cell
  have fm0 := m0.frozen
  replace k0 := blk_keep k0 hbw5
  replace ck0 := k0.cell
  replace fk0 := k0.frozen
  replace hbw0 := below_below hbw0 hbw5
  have o3 := o2.below hbw5 (Nat.le_refl _)
  refine (implStoreMany_any s.pk _ _ _ _ _ _ _ w5 _ _ (OPks.t o3.pk) hbw5.size (Nat.le_trans HC.out (by omega))).mono ?_
  rintro e w6 ⟨rfl, b6⟩
  replace k0 := blk_keep k0 b6
  replace ck0 := k0.cell
  replace fk0 := k0.frozen
  replace m0 := blk_keep m0 b6
  replace cm0 := m0.cell
  replace fm0 := m0.frozen
  replace hbw0 := below_below hbw0 b6
  have o4 := o3.below b6 hbw5.size
  have hsz6 : w4.heap.size ≤ w6.heap.size := Nat.le_trans hbw5.size b6.size
  have HO4 := Lib.hid o4.l
  clear o4 o3 o2
  have hne : (((cntS pkN s.pk : Nat) : Int) != ((cntS pkN s.pk : Nat) : Int)) = false := by simp
  go_wp2_with fail
  have fk := ck0 0
  have fk1 := ck0 1
  have fk2 := ck0 2
  have fm := cm0 0
  have fm1 := cm0 1
  have fm2 := cm0 2
  have past0 := past_cell fk
  have past1 := past_cell fk1
  have past2 := past_cell fk2
  have past3 := past_cell fm
  have past4 := past_cell fm1
  have past5 := past_cell fm2
  refine region_pastT 5 [0, 1] [2, 3, 4] (by kernel_rfl) (by kernel_rfl) (by kernel_rfl) ?_
  simp only [pick, List.map, List.getD_cons_zero, List.getD_cons_succ]
  repeat (go_big_quiet_step (fail))
  refine wpQuiet_nil ?_
  clear past0 past1 past2 past3 past4 past5
  apply Exists.intro
  apply past_any (fun v w' => ∃ va vb vc, v = .agg #[va, vb, vc] ∧ OSto w' w6.heap.size w'.heap.size s va vb vc)
  · rfl
  · exact fun v x y ⟨va, vb, vc, e, h⟩ hle => ⟨va, vb, vc, e, (h.below hle (Nat.le_refl _)).go (fun _ _ _ => rfl) (Nat.le_refl _) hle.size⟩
  · intro x _ Qx hQ'
    have hQ := Lib.hid hQ'; clear hQ'
    go_wp2_with fail
    have hbx := below_below hbw0 x.ok
    refine (toStore_any s _ _ _ _ 0 w'.heap.size (h.below hbx (Nat.le_refl _)) hbx.size HB.out).mono ?_
    rintro e wy ⟨v5, v6, v7, rfl, o5, by5⟩
    go_wp2_with fail
    exact hQ.out _ _ by5 ⟨v5, v6, v7, rfl, o5.go (fun _ _ _ => rfl) x.ok.size (Nat.le_refl _)⟩
  intro vr
  simp only [Act.put, List.setIfInBounds_toArray, List.set_cons_zero, List.set_cons_succ]
  apply past_fix (.bool true)
  · intro x hF Qx hQ'
    have hQ := Lib.hid hQ'; clear hQ'
    obtain ⟨v5, v6, v7, rfl, o5⟩ := hF.1 (by kernel_rfl)
    go_wp2_with fail
    have o4 := HO4.out.below x.ok (by omega)
    refine (eqStore_any s s _ _ _ _ _ _ _ _ w4.heap.size _ _ o4 o5.l (by have := x.ok.size; omega) (Nat.le_refl _) true (by simp)).mono ?_
    rintro e wy ⟨rfl, by5⟩
    go_wp2_with fail
    exact hQ.out _ by5
  simp only [Act.put, List.setIfInBounds_toArray, List.set_cons_zero, List.set_cons_succ]
  apply past_fix (.bool false)
  · intro x hF Qx hQ'
    have hQ := Lib.hid hQ'; clear hQ'
    go_wp2_with fail
    exact hQ.out _ (Below.refl _ _)
  simp only [Act.put, List.setIfInBounds_toArray, List.set_cons_zero, List.set_cons_succ]
  refine past_end ?_
  intro w2 hb2 x hx hF
  dsimp only [allF] at hF
  rw [hx] at hF
  clear hx x
  replace hbw0 := below_below hbw0 hb2
  simp only [List.drop]
  go_wp2_with fail
  go_ret
  exact ⟨rfl, hbw0⟩
set_option maxRecDepth 100000 in
theorem lifted (os : Os) (started : os.Started) (H : Type) (enc : TypeId × Value → H) :
    ReturnsInHanded {} Try.checked os 6 .any (Rows.fnExactStoreManySpec.pre6 enc Try.prog Try.f6 Rows.fnExactStoreManyRow.domain false) (Rows.fnExactStoreManySpec.post enc Try.prog Try.f6 false true false false) := by
  refine law_lifted own started (by kernel_rfl) Try.func6 laidOut (by kernel_rfl) rfl Try.underlying4 rfl (fun ds hl => ?_)
    (ChangeSpec.witness6 (enc := enc) (C := Try.checked) false ⟨#[], #[.agg #[.slice none 0 0, .slice none 0 0, .slice none 0 0]], []⟩ 8 (by kernel_rfl) (by kernel_rfl) (by kernel_rfl) (by kernel_rfl)) ?_
  · match ds, hl with
    | [_], _ => rfl
  intro W base args ds p hval0 hA hlt hsz hsh
  have hval : ∀ (j : Nat) t v, Try.f6.params[j]? = some t → args[j]? = some v → Value.okWide Try.prog W .any base t v := hval0
  rw [Try.params6] at hA hval
  obtain ⟨v0, d0, rfl, rfl, h0⟩ := trodAll_one hA
  obtain ⟨a0_0, r0⟩ := open_store (hval 0 50 v0 rfl rfl) h0 (by first | exact hlt | exact fun x hx => hlt x (by simp [hx]))
  exact walk a0_0 r0 W

set_option maxRecDepth 100000 in
theorem factsHold : joinedFacts Try.pinned.checked.prog 6 Try.f6 Rows.fnExactStoreManySpec Rows.fnExactStoreManyRow = true := by
  unfold joinedFacts
  rw [liftsFinal, mayEnter, makeIs]
  kernel_rfl
set_option maxRecDepth 100000 in
theorem proved : Rows.FnExactStoreManySaid :=
  OpenClaim.holds_of_wide 6 Try.f6 rfl rfl rfl rfl rfl rfl rfl ⟨rfl, rfl, rfl, rfl, rfl⟩ rfl rfl rfl rfl rfl (by kernel_rfl) Try.func6 factsHold
    (of_decide_eq_true (by kernel_rfl)) (by unfold Func.isWrapper; first | (rw [if_pos (by decide +kernel)]; kernel_rfl) | (rw [if_neg (by decide +kernel)]; exact ⟨rfl, rfl⟩))
    (fun os started H enc _ => lifted os started H enc)
#print axioms proved
end Go.Proofs.Ytanppokbjladfaa.lawesm2
