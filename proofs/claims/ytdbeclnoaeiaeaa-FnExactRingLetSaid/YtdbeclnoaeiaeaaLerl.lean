
/- The law FnExactRingLet: for every ring, machine and choice the program's RingLet returns what the reference's returns, leaves its argument as it was, and hands back memory of its own. No condition. -/
import Derived.Test.YtdbeclnoaeiaeaaOpRing
import Derived.Test.YtdbeclnoaeiaeaaRgLi
import Derived.Test.YtdbeclnoaeiaeaaHeard
import Derived.Test.YtdbeclnoaeiaeaaEnter
import Derived.Test.YtdbeclnoaeiaeaaMake
namespace Go.Proofs.Ytdbeclnoaeiaeaa.lawerl
open Go.RowKit Go.ChangeShapes Go.WideShapes Go.ChangeAt

theorem insG_mem {g : Gr} : ∀ {xs : List Gr} {y : Gr}, y ∈ insG g xs → y = g ∨ y ∈ xs
  | [], y, h => by
    have : y ∈ [g] := h
    simp at this; exact .inl this
  | x :: xs, y, h => by
    have h' : y ∈ (if g.m < x.m then g :: x :: xs else x :: insG g xs) := h
    split at h'
    · rcases List.mem_cons.1 h' with e | e
      · exact .inl e
      · exact .inr e
    · rcases List.mem_cons.1 h' with e | e
      · exact .inr (by rw [e]; simp)
      · rcases insG_mem e with e | e
        · exact .inl e
        · exact .inr (by simp [e])
theorem asc_len : ∀ (xs : List Gr) (lo : Int), (∀ x ∈ xs, lo ≤ x.m ∧ x.m ≤ 4) → (xs.Pairwise fun a b => a.m < b.m) → (xs.length : Int) ≤ 5 - lo ∨ xs = []
  | [], _, _, _ => .inr rfl
  | x :: xs, lo, h, hp => by
    have h1 := h x (by simp)
    rw [List.pairwise_cons] at hp
    rcases asc_len xs (x.m + 1) (fun y hy => ⟨by have := hp.1 y hy; omega, (h y (by simp [hy])).2⟩) hp.2 with h2 | rfl
    · left; rw [List.length_cons]; omega
    · left; simp; omega
theorem good' {r r' : Rg} {m : Int} {all ok : Bool} (h : RLet r m all r' ok) (hg : RgGood r) (hk : In64 m) : RgGood r' := by
  rcases h with ⟨_, h1, _, rfl⟩ | ⟨_, _, _, rfl⟩ | ⟨_, _, rfl⟩
  · refine ⟨hg.keys, fun y hy => ?_⟩
    rcases insG_mem hy with rfl | hy
    · have := h1.1.2.2.2
      refine ⟨hk, ?_, by show In64 0; unfold In64; omega⟩
      show In64 (letFrom all r)
      unfold letFrom In64
      split <;> omega
    · exact hg.grs y hy
  · exact hg
  · exact ⟨fun x hx => (by cases hx), fun x hx => (by cases hx)⟩
theorem sz' {r r' : Rg} {m : Int} {all ok : Bool} (h : RLet r m all r' ok) (hs : szP r) : szP r' := by
  rcases h with ⟨_, h1, _, rfl⟩ | ⟨_, _, _, rfl⟩ | ⟨_, _, rfl⟩
  · refine ⟨hs.1, ?_⟩
    show (insG _ r.grs).length ≤ 1048576
    rw [insG_len]
    have hm : ∀ x ∈ r.grs, 1 ≤ x.m ∧ x.m ≤ 4 := fun x hx => by
      have := h1.1.2.1.1 x hx
      exact ⟨this.1, this.2.1⟩
    rcases asc_len r.grs 1 hm h1.1.2.1.2 with h2 | h2
    · omega
    · rw [h2]; simp
  · exact hs
  · exact ⟨by simp, by simp⟩

set_option maxHeartbeats 2000000 in
theorem walk (r : Rg) {v : Value} {w : World} (hr0 : RRing w 0 w.heap.size r v) (mm : Int) (hkey : In64 mm) (all : Bool) (w' : World) (hw : w' = w := by rfl) :
    Calls Try.prog 18 #[v, .int .i64 mm, .bool all] w' fun e w' => e = .returned (.bool true) ∧ Below w.heap.size w w' := by
  subst hw
  obtain ⟨va, vb, rfl, ha, hb⟩ := hr0
  obtain ⟨A, c, rfl⟩ := ha.form
  obtain ⟨B, d, rfl⟩ := hb.form
  obtain ⟨r', ok, hr0⟩ := RLet_total r mm all
  have hr := Lib.hid hr0; clear hr0
  have hg' := Lib.hid (good' hr.out (rg_good ha hb) hkey)
  have hg := Lib.hid (rg_good ha hb)
  go_enter Try.func18, Try.ntmps18
  go_wp2_with fail
  have hbw0 : Below w'.heap.size w' (w'.alloc (.cells #[.slice A r.keys.length c, .slice B r.grs.length d] 25)) := below_alloc _ _
  have k0 : Blk (w'.alloc (.cells #[.slice A r.keys.length c, .slice B r.grs.length d] 25)) (w'.heap.size) 25 #[.slice A r.keys.length c, .slice B r.grs.length d] := by
    have hk := Blk.new w' 25 #[.slice A r.keys.length c, .slice B r.grs.length d]
    exact hk
  have hsw0 : w'.heap.size + 1 ≤ (w'.alloc (.cells #[.slice A r.keys.length c, .slice B r.grs.length d] 25)).heap.size := by simp only [World.size_alloc]; omega
  generalize (w'.alloc (.cells #[.slice A r.keys.length c, .slice B r.grs.length d] 25)) = w0 at *
  have ck0 := k0.cell
  have fk0 := k0.frozen
  refine (szRing_any r _ _ _ _ _ (sl_keep RInt.loc ha hbw0 (Nat.le_refl _)) (sl_keep RGr.loc hb hbw0 (Nat.le_refl _))).mono ?_
  rintro e w1 ⟨⟨kk, rfl, hk⟩, b1⟩
  replace k0 := blk_keep k0 b1
  replace ck0 := k0.cell
  replace fk0 := k0.frozen
  replace hbw0 := below_below hbw0 b1
  by_cases hneg : kk < 0
  · go_wp2_with fail
    go_ret
    exact ⟨rfl, hbw0⟩
  have hszp : szP r := by
    rcases hk with h | h | h
    · omega
    · exact h.2
    · omega
  have HS := Lib.hid hszp
  clear hk hszp
  go_wp2_with fail
  refine (toRing_any r _ _ _ 0 w'.heap.size hbw0.size (sl_keep RInt.loc ha hbw0 (Nat.le_refl _)) (sl_keep RGr.loc hb hbw0 (Nat.le_refl _)) HS.out.1 HS.out.2).mono ?_
  rintro e w2 ⟨v1, v2, rfl, o1, bw2⟩
  obtain ⟨Av1, cv1, rfl⟩ := o1.keys.form
  obtain ⟨Av2, cv2, rfl⟩ := o1.grs.form
  replace k0 := blk_keep k0 bw2
  replace ck0 := k0.cell
  replace fk0 := k0.frozen
  replace hbw0 := below_below hbw0 bw2
  have q1 := o1.reads hg.out
  go_wp2_with fail
  refine (specRingLet_any r mm all _ _ _ _ _ (Nat.le_refl _) q1.1 q1.2 HS.out.1 HS.out.2 r' ok hr.out).mono ?_
  rintro e w3 ⟨u1, u2, rfl, p1, b3⟩
  obtain ⟨Au1, cu1, rfl⟩ := p1.keys.form
  obtain ⟨Au2, cu2, rfl⟩ := p1.grs.form
  replace k0 := blk_keep k0 b3
  replace ck0 := k0.cell
  replace fk0 := k0.frozen
  replace hbw0 := below_below hbw0 b3
  have H1R := Lib.hid p1.at_
  have sz1 := b1.size
  have sz2 := bw2.size
  have sz3 := b3.size
  clear q1 o1
  have ax := below_alloc w3 (.cells #[.slice Au1 r'.keys.length cu1, .slice Au2 r'.grs.length cu2] 30)
  have kak0 := (blk_keep k0 ax).cell
  go_wp2_with fail
  clear ax kak0
  have hbwa : Below w3.heap.size w3 (w3.alloc (.cells #[.slice Au1 r'.keys.length cu1, .slice Au2 r'.grs.length cu2] 30)) := below_alloc _ _
  have m0 : Blk (w3.alloc (.cells #[.slice Au1 r'.keys.length cu1, .slice Au2 r'.grs.length cu2] 30)) (w3.heap.size) 30 #[.slice Au1 r'.keys.length cu1, .slice Au2 r'.grs.length cu2] := Blk.new _ _ _
  have hswa : w3.heap.size + 1 ≤ (w3.alloc (.cells #[.slice Au1 r'.keys.length cu1, .slice Au2 r'.grs.length cu2] 30)).heap.size := by simp only [World.size_alloc]; omega
  generalize (w3.alloc (.cells #[.slice Au1 r'.keys.length cu1, .slice Au2 r'.grs.length cu2] 30)) = wa at *
  have cm0 := m0.cell
  have fm0 := m0.frozen
  replace k0 := blk_keep k0 hbwa
  replace ck0 := k0.cell
  replace fk0 := k0.frozen
  replace hbw0 := below_below hbw0 hbwa
  replace p1 := p1.below hbwa
  refine (toRing_any r _ _ _ 0 w'.heap.size hbw0.size (sl_keep RInt.loc ha hbw0 (Nat.le_refl _)) (sl_keep RGr.loc hb hbw0 (Nat.le_refl _)) HS.out.1 HS.out.2).mono ?_
  rintro e w4 ⟨v3, v4, rfl, o3, bw4⟩
  obtain ⟨Av3, cv3, rfl⟩ := o3.keys.form
  obtain ⟨Av4, cv4, rfl⟩ := o3.grs.form
  replace k0 := blk_keep k0 bw4
  replace ck0 := k0.cell
  replace fk0 := k0.frozen
  replace m0 := blk_keep m0 bw4
  replace cm0 := m0.cell
  replace fm0 := m0.frozen
  replace hbw0 := below_below hbw0 bw4
  replace p1 := p1.below bw4
  have H3R := Lib.hid o3.at_
  have sz4 := bw4.size
  have ax := below_alloc w4 (.cells #[.slice Av3 r.keys.length cv3, .slice Av4 r.grs.length cv4] 30)
  have kak0 := (blk_keep k0 ax).cell
  have kam0 := (blk_keep m0 ax).cell
  go_wp2_with fail
  clear ax kak0 kam0
  have hbwb : Below w4.heap.size w4 (w4.alloc (.cells #[.slice Av3 r.keys.length cv3, .slice Av4 r.grs.length cv4] 30)) := below_alloc _ _
  have n0 : Blk (w4.alloc (.cells #[.slice Av3 r.keys.length cv3, .slice Av4 r.grs.length cv4] 30)) (w4.heap.size) 30 #[.slice Av3 r.keys.length cv3, .slice Av4 r.grs.length cv4] := Blk.new _ _ _
  have hswb : w4.heap.size + 1 ≤ (w4.alloc (.cells #[.slice Av3 r.keys.length cv3, .slice Av4 r.grs.length cv4] 30)).heap.size := by simp only [World.size_alloc]; omega
  generalize (w4.alloc (.cells #[.slice Av3 r.keys.length cv3, .slice Av4 r.grs.length cv4] 30)) = wb at *
  have cn0 := n0.cell
  have fn0 := n0.frozen
  replace k0 := blk_keep k0 hbwb
  replace ck0 := k0.cell
  replace fk0 := k0.frozen
  replace m0 := blk_keep m0 hbwb
  replace cm0 := m0.cell
  replace fm0 := m0.frozen
  replace hbw0 := below_below hbw0 hbwb
  replace p1 := p1.below hbwb
  replace o3 := o3.below hbwb
  have q3 := o3.reads hg.out
  refine (implRingLet_any r mm all _ _ _ _ _ (Nat.le_refl _) q3.1 q3.2 HS.out.1 HS.out.2 r' ok hr.out).mono ?_
  rintro e w5 ⟨u3, u4, rfl, p2, b5⟩
  obtain ⟨Au3, cu3, rfl⟩ := p2.keys.form
  obtain ⟨Au4, cu4, rfl⟩ := p2.grs.form
  replace k0 := blk_keep k0 b5
  replace ck0 := k0.cell
  replace fk0 := k0.frozen
  replace m0 := blk_keep m0 b5
  replace cm0 := m0.cell
  replace fm0 := m0.frozen
  replace n0 := blk_keep n0 b5
  replace cn0 := n0.cell
  replace fn0 := n0.frozen
  replace hbw0 := below_below hbw0 b5
  replace p1 := p1.below b5
  replace o3 := o3.below b5
  have H2R := Lib.hid p2.at_
  have sz5 := b5.size
  clear q3
  have ax := below_alloc w5 (.cells #[.slice Au3 r'.keys.length cu3, .slice Au4 r'.grs.length cu4] 30)
  have kak0 := (blk_keep k0 ax).cell
  have kam0 := (blk_keep m0 ax).cell
  have kan0 := (blk_keep n0 ax).cell
  go_wp2_with fail
  clear ax kak0 kam0 kan0
  have hbwc : Below w5.heap.size w5 (w5.alloc (.cells #[.slice Au3 r'.keys.length cu3, .slice Au4 r'.grs.length cu4] 30)) := below_alloc _ _
  have s0 : Blk (w5.alloc (.cells #[.slice Au3 r'.keys.length cu3, .slice Au4 r'.grs.length cu4] 30)) (w5.heap.size) 30 #[.slice Au3 r'.keys.length cu3, .slice Au4 r'.grs.length cu4] := Blk.new _ _ _
  have hswc : w5.heap.size + 1 ≤ (w5.alloc (.cells #[.slice Au3 r'.keys.length cu3, .slice Au4 r'.grs.length cu4] 30)).heap.size := by simp only [World.size_alloc]; omega
  generalize (w5.alloc (.cells #[.slice Au3 r'.keys.length cu3, .slice Au4 r'.grs.length cu4] 30)) = wc at *
  have cs0 := s0.cell
  have fs0 := s0.frozen
  replace k0 := blk_keep k0 hbwc
  replace ck0 := k0.cell
  replace fk0 := k0.frozen
  replace m0 := blk_keep m0 hbwc
  replace cm0 := m0.cell
  replace fm0 := m0.frozen
  replace n0 := blk_keep n0 hbwc
  replace cn0 := n0.cell
  replace fn0 := n0.frozen
  replace hbw0 := below_below hbw0 hbwc
  replace p1 := p1.below hbwc
  replace o3 := o3.below hbwc
  replace p2 := p2.below hbwc
  have e2 := p2.reads hg'.out
  have e1 := p1.reads hg'.out
  refine (eqRing_any r' r' _ _ _ _ _ _ _ _ _ (Nat.le_refl _) (Nat.le_refl _) e2.1 e2.2 e1.1 e1.2 true (by simp)).mono ?_
  rintro e w6 ⟨rfl, b6⟩
  clear e1 e2
  replace k0 := blk_keep k0 b6
  replace ck0 := k0.cell
  replace fk0 := k0.frozen
  replace m0 := blk_keep m0 b6
  replace cm0 := m0.cell
  replace fm0 := m0.frozen
  replace n0 := blk_keep n0 b6
  replace cn0 := n0.cell
  replace fn0 := n0.frozen
  replace s0 := blk_keep s0 b6
  replace cs0 := s0.cell
  replace fs0 := s0.frozen
  replace hbw0 := below_below hbw0 b6
  replace p1 := p1.below b6
  replace o3 := o3.below b6
  replace p2 := p2.below b6
  have sz6 := b6.size
  go_wp2_with fail
  have fk := ck0 0
  have fk1 := ck0 1
  have fm := cn0 0
  have fm1 := cn0 1
  have past0 := past_cell fk
  have past1 := past_cell fk1
  have past2 := past_cell fm
  have past3 := past_cell fm1
  refine region_pastT 5 [0, 1] [2, 3, 4] (by kernel_rfl) (by kernel_rfl) (by kernel_rfl) ?_
  simp only [pick, List.map, List.getD_cons_zero, List.getD_cons_succ]
  repeat (go_big_quiet_step (fail))
  refine wpQuiet_nil ?_
  clear past0 past1 past2 past3
  apply Exists.intro
  apply past_any (fun v w' => ∃ va vb, v = .agg #[va, vb] ∧ OwnRg w' w6.heap.size va vb r)
  · rfl
  · exact fun v x y ⟨va, vb, e, h⟩ hle => ⟨va, vb, e, h.below hle⟩
  · intro x _ Qx hQ'
    have hQ := Lib.hid hQ'; clear hQ'
    go_wp2_with fail
    have hbx := below_below hbw0 x.ok
    refine (toRing_any r _ _ _ 0 w'.heap.size hbx.size (sl_keep RInt.loc ha hbx (Nat.le_refl _)) (sl_keep RGr.loc hb hbx (Nat.le_refl _)) HS.out.1 HS.out.2).mono ?_
    rintro e wy ⟨v5, v6, rfl, o5, by5⟩
    go_wp2_with fail
    exact hQ.out _ _ by5 ⟨v5, v6, rfl, o5.base x.ok.size⟩
  intro vr
  simp only [Act.put, List.setIfInBounds_toArray, List.set_cons_zero, List.set_cons_succ]
  apply past_fix (.bool true)
  · intro x hF Qx hQ'
    have hQ := Lib.hid hQ'; clear hQ'
    obtain ⟨v5, v6, rfl, o5⟩ := hF.1 (by kernel_rfl)
    go_wp2_with fail
    have o4 := (o3.below x.ok).reads hg.out
    have o6 := o5.reads hg.out
    refine (eqRing_any r r _ _ _ _ _ _ _ _ _ (Nat.le_refl _) (Nat.le_refl _) o4.1 o4.2 o6.1 o6.2 true (by simp)).mono ?_
    rintro e wy ⟨rfl, by5⟩
    go_wp2_with fail
    exact hQ.out _ by5
  simp only [Act.put, List.setIfInBounds_toArray, List.set_cons_zero, List.set_cons_succ]
  apply past_fix (.bool false)
  · intro x hF Qx hQ'
    have hQ := Lib.hid hQ'; clear hQ'
    go_wp2_with fail
    exact hQ.out _ (Below.refl _ _)
  simp only [Act.put, List.setIfInBounds_toArray, List.set_cons_zero, List.set_cons_succ]
  refine past_end ?_
  intro w2 hb2 x hx hF
  dsimp only [allF] at hF
  rw [hx] at hF
  clear hx x
  have hs' := Lib.hid (sz' hr.out HS.out)
  replace k0 := blk_keep k0 hb2
  replace ck0 := k0.cell
  replace fk0 := k0.frozen
  replace m0 := blk_keep m0 hb2
  replace cm0 := m0.cell
  replace fm0 := m0.frozen
  replace n0 := blk_keep n0 hb2
  replace cn0 := n0.cell
  replace fn0 := n0.frozen
  replace s0 := blk_keep s0 hb2
  replace cs0 := s0.cell
  replace fs0 := s0.frozen
  replace hbw0 := below_below hbw0 hb2
  replace p1 := p1.below hb2
  replace o3 := o3.below hb2
  replace p2 := p2.below hb2
  have sz7 := hb2.size
  clear fk fk1 fm fm1
  simp only [List.drop]
  go_wp2_with fail
  refine (markRing_any r _ _ _ _ o3 o3.apart HS.out.1 HS.out.2).mono ?_
  rintro e w7 ⟨rfl, -, ch7⟩
  replace k0 := blk_chg k0 ch7 (fun hs => by have := H3R.out _ hs; omega)
  replace m0 := blk_chg m0 ch7 (fun hs => by have := H3R.out _ hs; omega)
  replace s0 := blk_chg s0 ch7 (fun hs => by have := H3R.out _ hs; omega)
  replace ck0 := k0.cell
  replace cm0 := m0.cell
  replace cs0 := s0.cell
  replace hbw0 := hbw0.trans (ch7.below hbw0.size fun i hi hs => by have := H3R.out _ hs; omega)
  replace p1 := p1.chg ch7 (fun b hb hs => by have := H3R.out _ hs; have := H1R.out _ hb; omega)
  replace p2 := p2.chg ch7 (fun b hb hs => by have := H3R.out _ hs; have := H2R.out _ hb; omega)
  have sz8 := ch7.size
  clear o3 n0 cn0 fn0 fk0 fm0 fs0
  have e2 := p2.reads hg'.out
  have e1 := p1.reads hg'.out
  go_wp2_with fail
  refine (eqRing_any r' r' _ _ _ _ _ _ _ _ _ (Nat.le_refl _) (Nat.le_refl _) e2.1 e2.2 e1.1 e1.2 true (by simp)).mono ?_
  rintro e w8 ⟨rfl, b8⟩
  clear e1 e2
  replace k0 := blk_keep k0 b8
  replace ck0 := k0.cell
  replace fk0 := k0.frozen
  replace m0 := blk_keep m0 b8
  replace cm0 := m0.cell
  replace fm0 := m0.frozen
  replace s0 := blk_keep s0 b8
  replace cs0 := s0.cell
  replace fs0 := s0.frozen
  replace hbw0 := below_below hbw0 b8
  replace p1 := p1.below b8
  replace p2 := p2.below b8
  have sz9 := b8.size
  go_wp2_with fail
  refine (markRing_any r' _ _ _ _ p2 p2.apart hs'.out.1 hs'.out.2).mono ?_
  rintro e w9 ⟨rfl, mk9, ch9⟩
  replace k0 := blk_chg k0 ch9 (fun hs => by have := H2R.out _ hs; omega)
  replace m0 := blk_chg m0 ch9 (fun hs => by have := H2R.out _ hs; omega)
  replace s0 := blk_chg s0 ch9 (fun hs => by have := H2R.out _ hs; omega)
  replace ck0 := k0.cell
  replace cm0 := m0.cell
  replace cs0 := s0.cell
  replace hbw0 := hbw0.trans (ch9.below hbw0.size fun i hi hs => by have := H2R.out _ hs; omega)
  replace p1 := p1.chg ch9 (fun b hb hs => by have := H2R.out _ hs; have := H1R.out _ hb; omega)
  clear p2
  go_wp2_with fail
  refine (heldRing_any r' _ _ _ _ mk9 hs'.out.1 hs'.out.2).mono ?_
  rintro e wd ⟨rfl, bd⟩
  replace k0 := blk_keep k0 bd
  replace ck0 := k0.cell
  replace fk0 := k0.frozen
  replace m0 := blk_keep m0 bd
  replace cm0 := m0.cell
  replace fm0 := m0.frozen
  replace s0 := blk_keep s0 bd
  replace cs0 := s0.cell
  replace fs0 := s0.frozen
  replace hbw0 := below_below hbw0 bd
  replace p1 := p1.below bd
  replace mk9 := mk9.below bd
  go_wp2_with fail
  refine (toRing_any r _ _ _ 0 w'.heap.size hbw0.size (sl_keep RInt.loc ha hbw0 (Nat.le_refl _)) (sl_keep RGr.loc hb hbw0 (Nat.le_refl _)) HS.out.1 HS.out.2).mono ?_
  rintro e we ⟨v5, v6, rfl, o5, bwe⟩
  obtain ⟨Av5, cv5, rfl⟩ := o5.keys.form
  obtain ⟨Av6, cv6, rfl⟩ := o5.grs.form
  replace k0 := blk_keep k0 bwe
  replace ck0 := k0.cell
  replace fk0 := k0.frozen
  replace m0 := blk_keep m0 bwe
  replace cm0 := m0.cell
  replace fm0 := m0.frozen
  replace s0 := blk_keep s0 bwe
  replace cs0 := s0.cell
  replace fs0 := s0.frozen
  replace hbw0 := below_below hbw0 bwe
  replace p1 := p1.below bwe
  replace mk9 := mk9.below bwe
  have q5 := o5.reads hg.out
  go_wp2_with fail
  refine (implRingLet_any r mm all _ _ _ _ _ (Nat.le_refl _) q5.1 q5.2 HS.out.1 HS.out.2 r' ok hr.out).mono ?_
  rintro e wf ⟨u5, u6, rfl, p5, bf⟩
  obtain ⟨Au5, cu5, rfl⟩ := p5.keys.form
  obtain ⟨Au6, cu6, rfl⟩ := p5.grs.form
  replace k0 := blk_keep k0 bf
  replace ck0 := k0.cell
  replace fk0 := k0.frozen
  replace m0 := blk_keep m0 bf
  replace cm0 := m0.cell
  replace fm0 := m0.frozen
  replace s0 := blk_keep s0 bf
  replace cs0 := s0.cell
  replace fs0 := s0.frozen
  replace hbw0 := below_below hbw0 bf
  replace p1 := p1.below bf
  replace mk9 := mk9.below bf
  clear q5 o5
  have ax := below_alloc wf (.cells #[.slice Au5 r'.keys.length cu5, .slice Au6 r'.grs.length cu6] 30)
  have kak0 := (blk_keep k0 ax).cell
  have kam0 := (blk_keep m0 ax).cell
  have kas0 := (blk_keep s0 ax).cell
  go_wp2_with fail
  clear ax kak0 kam0 kas0
  have hbwg : Below wf.heap.size wf (wf.alloc (.cells #[.slice Au5 r'.keys.length cu5, .slice Au6 r'.grs.length cu6] 30)) := below_alloc _ _
  have t0 : Blk (wf.alloc (.cells #[.slice Au5 r'.keys.length cu5, .slice Au6 r'.grs.length cu6] 30)) (wf.heap.size) 30 #[.slice Au5 r'.keys.length cu5, .slice Au6 r'.grs.length cu6] := Blk.new _ _ _
  have hswg : wf.heap.size + 1 ≤ (wf.alloc (.cells #[.slice Au5 r'.keys.length cu5, .slice Au6 r'.grs.length cu6] 30)).heap.size := by simp only [World.size_alloc]; omega
  generalize (wf.alloc (.cells #[.slice Au5 r'.keys.length cu5, .slice Au6 r'.grs.length cu6] 30)) = wg at *
  have ct0 := t0.cell
  have ft0 := t0.frozen
  replace k0 := blk_keep k0 hbwg
  replace ck0 := k0.cell
  replace fk0 := k0.frozen
  replace m0 := blk_keep m0 hbwg
  replace cm0 := m0.cell
  replace fm0 := m0.frozen
  replace s0 := blk_keep s0 hbwg
  replace cs0 := s0.cell
  replace fs0 := s0.frozen
  replace hbw0 := below_below hbw0 hbwg
  replace p1 := p1.below hbwg
  replace mk9 := mk9.below hbwg
  replace p5 := p5.below hbwg
  have e5 := p5.reads hg'.out
  have e1 := p1.reads hg'.out
  refine (eqRing_any r' r' _ _ _ _ _ _ _ _ _ (Nat.le_refl _) (Nat.le_refl _) e5.1 e5.2 e1.1 e1.2 true (by simp)).mono ?_
  rintro e wh ⟨rfl, bh⟩
  clear e1 e5
  replace k0 := blk_keep k0 bh
  replace ck0 := k0.cell
  replace fk0 := k0.frozen
  replace m0 := blk_keep m0 bh
  replace cm0 := m0.cell
  replace fm0 := m0.frozen
  replace s0 := blk_keep s0 bh
  replace cs0 := s0.cell
  replace fs0 := s0.frozen
  replace hbw0 := below_below hbw0 bh
  replace mk9 := mk9.below bh
  go_wp2_with fail
  refine (heldRing_any r' _ _ _ _ mk9 hs'.out.1 hs'.out.2).mono ?_
  rintro e wi ⟨rfl, bi⟩
  replace hbw0 := below_below hbw0 bi
  go_wp2_with fail
  go_ret
  exact ⟨rfl, hbw0⟩

set_option maxRecDepth 100000 in
theorem lifted (os : Os) (started : os.Started) (H : Type) (enc : TypeId × Value → H) :
    ReturnsInHanded {} Try.checked os 18 .any (Rows.fnExactRingLetSpec.pre6 enc Try.prog Try.f18 Rows.fnExactRingLetRow.domain false) (Rows.fnExactRingLetSpec.post enc Try.prog Try.f18 false true false false) := by
  refine law_lifted own started (by kernel_rfl) Try.func18 laidOut (by kernel_rfl) rfl Try.underlying4 rfl (fun ds hl => ?_)
    (ChangeSpec.witness6 (enc := enc) (C := Try.checked) false ⟨#[], #[.agg #[.slice none 0 0, .slice none 0 0], .int .i64 0, .bool false], []⟩ 8 (by kernel_rfl) (by kernel_rfl) (by kernel_rfl) (by kernel_rfl)) ?_
  · match ds, hl with
    | [_, _, _], _ => rfl
  intro W base args ds p hval0 hA hlt hsz hsh
  have hval : ∀ (j : Nat) t v, Try.f18.params[j]? = some t → args[j]? = some v → Value.okWide Try.prog W .any base t v := hval0
  rw [Try.params18] at hA hval
  obtain ⟨v0, v1, v2, d0, d1, d2, p0, p1, p2, rfl, rfl, rfl, h0, h1, h2⟩ := trodAll_three hA
  obtain ⟨a0_0, r0⟩ := open_ring (hval 0 25 v0 rfl rfl) h0 (by first | exact hlt | exact fun x hx => hlt x (by simp [hx]))
  obtain ⟨a1, rfl, rfl, rfl, w1⟩ := open_int Try.underlying3 (hval 1 3 v1 rfl rfl) h1
  obtain ⟨a2, rfl, rfl, rfl⟩ := open_bool Try.underlying4 (hval 2 4 v2 rfl rfl) h2
  exact walk a0_0 r0 a1 (in64_of_wf w1) a2 W

set_option maxRecDepth 100000 in
theorem factsHold : joinedFacts Try.pinned.checked.prog 18 Try.f18 Rows.fnExactRingLetSpec Rows.fnExactRingLetRow = true := by
  unfold joinedFacts
  rw [liftsFinal, mayEnter, makeIs]
  kernel_rfl
set_option maxRecDepth 100000 in
theorem proved : Rows.FnExactRingLetSaid :=
  OpenClaim.holds_of_wide 18 Try.f18 rfl rfl rfl rfl rfl rfl rfl ⟨rfl, rfl, rfl, rfl, rfl⟩ rfl rfl rfl rfl rfl (by kernel_rfl) Try.func18 factsHold
    (of_decide_eq_true (by kernel_rfl)) (by unfold Func.isWrapper; first | (rw [if_pos (by decide +kernel)]; kernel_rfl) | (rw [if_neg (by decide +kernel)]; exact ⟨rfl, rfl⟩))
    (fun os started H enc _ => lifted os started H enc)
#print axioms proved
end Go.Proofs.Ytdbeclnoaeiaeaa.lawerl
