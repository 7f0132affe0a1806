


/- The reference's RingLet. -/
import Derived.Test.YtdbeclnoaeiaeaaRgS
namespace Go.Proofs.Ytdbeclnoaeiaeaa
open Go.RowKit

/-- A grant put among grants, by machine. -/
def insG (g : Gr) : List Gr → List Gr
  | [] => [g]
  | x :: xs => if g.m < x.m then g :: x :: xs else x :: insG g xs
theorem insG_none {g : Gr} : ∀ {xs : List Gr}, (∀ x ∈ xs, ¬ g.m < x.m) → insG g xs = xs ++ [g]
  | [], _ => rfl
  | x :: xs, h => by
    show (if g.m < x.m then _ else _) = _
    rw [if_neg (h x (by simp)), insG_none fun y hy => h y (by simp [hy])]; rfl
theorem insG_has {g x : Gr} : ∀ {xs : List Gr}, (∃ y ∈ xs, g.m < y.m) → insG g (xs ++ [x]) = insG g xs ++ [x]
  | [], h => by obtain ⟨y, hy, _⟩ := h; cases hy
  | z :: xs, h => by
    show (if g.m < z.m then g :: z :: (xs ++ [x]) else z :: insG g (xs ++ [x])) = (if g.m < z.m then g :: z :: xs else z :: insG g xs) ++ [x]
    by_cases hz : g.m < z.m
    · rw [if_pos hz, if_pos hz]; rfl
    · rw [if_neg hz, if_neg hz, insG_has]
      · rfl
      · obtain ⟨y, hy, hl⟩ := h
        rcases List.mem_cons.1 hy with rfl | hy
        · exact absurd hl hz
        · exact ⟨y, hy, hl⟩
theorem insG_at {g x : Gr} : ∀ {xs : List Gr}, (∀ y ∈ xs, ¬ g.m < y.m) → g.m < x.m → insG g (xs ++ [x]) = xs ++ [g] ++ [x]
  | [], _, hx => by show (if g.m < x.m then _ else _) = _; rw [if_pos hx]; rfl
  | z :: xs, h, hx => by
    show (if g.m < z.m then g :: z :: (xs ++ [x]) else z :: insG g (xs ++ [x])) = _
    rw [if_neg (h z (by simp)), insG_at (fun y hy => h y (by simp [hy])) hx]; rfl
theorem insG_len (g : Gr) : ∀ xs, (insG g xs).length = xs.length + 1
  | [] => rfl
  | x :: xs => by
    show (if g.m < x.m then g :: x :: xs else x :: insG g xs).length = _
    split
    · rfl
    · rw [List.length_cons, insG_len g xs, List.length_cons]

/-- From which epoch on. -/
def letFrom (all : Bool) (r : Rg) : Int := if all then 1 else r.keys.length
/-- What RingLet gives. -/
def RLet (r : Rg) (m : Int) (all : Bool) (r' : Rg) (ok : Bool) : Prop :=
  (ok = true ∧ (ringP r ∧ 1 ≤ m ∧ m ≤ 4) ∧ (∀ g ∈ r.grs, ¬ g.m = m) ∧ r' = ⟨r.keys, insG ⟨m, letFrom all r, 0⟩ r.grs⟩) ∨
  (ok = false ∧ (ringP r ∧ 1 ≤ m ∧ m ≤ 4) ∧ (∃ g ∈ r.grs, g.m = m) ∧ r = r') ∨
  (ok = false ∧ ¬ (ringP r ∧ 1 ≤ m ∧ m ≤ 4) ∧ r' = ⟨[], []⟩)
theorem RLet_total (r : Rg) (m : Int) (all : Bool) : ∃ r' ok, RLet r m all r' ok := by
  by_cases h1 : ringP r ∧ 1 ≤ m ∧ m ≤ 4
  · by_cases h2 : ∃ g ∈ r.grs, g.m = m
    · exact ⟨_, false, .inr (.inl ⟨rfl, h1, h2, rfl⟩)⟩
    · exact ⟨_, true, .inl ⟨rfl, h1, fun g hg he => h2 ⟨g, hg, he⟩, rfl⟩⟩
  · exact ⟨_, false, .inr (.inr ⟨rfl, h1, rfl⟩)⟩

/-- What has been built when k grants have been looked at. -/
def letSt (g : Gr) (xs : List Gr) (put : Bool) (o : List Gr) : Prop :=
  (put = false ∧ (∀ x ∈ xs, ¬ g.m < x.m) ∧ o = xs) ∨ (put = true ∧ (∃ x ∈ xs, g.m < x.m) ∧ o = insG g xs)
theorem letSt_nil (g : Gr) : letSt g [] false [] := .inl ⟨rfl, fun x hx => (by cases hx), rfl⟩
theorem letSt_put {g x : Gr} {xs o : List Gr} (h : letSt g xs false o) (hx : g.m < x.m) : letSt g (xs ++ [x]) true (o ++ [g] ++ [x]) := by
  rcases h with ⟨_, h, rfl⟩ | ⟨h, _⟩
  · exact .inr ⟨rfl, ⟨x, by simp, hx⟩, (insG_at h hx).symm⟩
  · cases h
theorem letSt_no {g x : Gr} {xs o : List Gr} (h : letSt g xs false o) (hx : x.m ≤ g.m) : letSt g (xs ++ [x]) false (o ++ [x]) := by
  rcases h with ⟨_, h, rfl⟩ | ⟨h, _⟩
  · refine .inl ⟨rfl, fun y hy => ?_, rfl⟩
    rcases List.mem_append.1 hy with hy | hy
    · exact h y hy
    · rw [List.mem_singleton.1 hy]; omega
  · cases h
theorem letSt_yes {g x : Gr} {xs o : List Gr} (h : letSt g xs true o) : letSt g (xs ++ [x]) true (o ++ [x]) := by
  rcases h with ⟨h, _⟩ | ⟨_, h, rfl⟩
  · cases h
  · obtain ⟨y, hy, hl⟩ := h
    exact .inr ⟨rfl, ⟨y, by simp [hy], hl⟩, (insG_has ⟨y, hy, hl⟩).symm⟩
theorem letSt_len {g : Gr} {xs o : List Gr} {put : Bool} (h : letSt g xs put o) : o.length ≤ xs.length + 1 := by
  rcases h with ⟨_, _, rfl⟩ | ⟨_, _, rfl⟩
  · omega
  · rw [insG_len]; omega
theorem letSt_end {g : Gr} {xs o : List Gr} {put : Bool} (h : letSt g xs put o) : (put = false ∧ insG g xs = o ++ [g]) ∨ (put = true ∧ insG g xs = o) := by
  rcases h with ⟨rfl, h, rfl⟩ | ⟨rfl, h, rfl⟩
  · exact .inl ⟨rfl, insG_none h⟩
  · exact .inr ⟨rfl, rfl⟩

set_option maxHeartbeats 2000000 in
theorem specRingLet_any (r : Rg) (mm : Int) (all : Bool) (va vb : Value) (w : World) (lo hi : Nat) (hhi : hi ≤ w.heap.size) (ha : RSl RInt 1 w lo hi r.keys [va]) (h : RSl RGr 3 w lo hi r.grs [vb]) (hl1 : r.keys.length ≤ 1048576) (hl2 : r.grs.length ≤ 1048576) (r' : Rg) (ok : Bool) (hr : RLet r mm all r' ok) :
    Calls Try.prog 43 #[.agg #[va, vb], .int .i64 mm, .bool all] w (NewRg2 w r' ok) := by
  obtain ⟨A, c, rfl⟩ := ha.form
  obtain ⟨B, d, rfl⟩ := h.form
  rcases hr with ⟨rfl, h1, h2, rfl⟩ | ⟨rfl, h1, h2, rfl⟩ | ⟨rfl, h1, rfl⟩
  · have H1 := Lib.hid h1; clear h1
    have hix : idxOf (fun g : Gr => decide (g.m = mm)) r.grs = -1 := idx_none fun y hy => by simpa using h2 y hy
    obtain ⟨_, hd, hy⟩ := h.len_
    unfold maxLen at hy
    clear h2
    cases all
    · go_enter Try.func43, Try.ntmps43
      go_wp2_with fail
      have hbw0 : Below w.heap.size w ((w.alloc (.cells #[.slice A r.keys.length c, .slice B r.grs.length d] 30)).alloc (.cells #[.slice none 0 0, .slice none 0 0] 30)) := below_alloc' (below_alloc _ _) _
      have k0 : Blk ((w.alloc (.cells #[.slice A r.keys.length c, .slice B r.grs.length d] 30)).alloc (.cells #[.slice none 0 0, .slice none 0 0] 30)) (w.heap.size) 30 #[.slice A r.keys.length c, .slice B r.grs.length d] := by
        have hk := blk_alloc (Blk.new w 30 #[.slice A r.keys.length c, .slice B r.grs.length d]) (.cells #[.slice none 0 0, .slice none 0 0] 30)
        exact hk
      have k1 : Blk ((w.alloc (.cells #[.slice A r.keys.length c, .slice B r.grs.length d] 30)).alloc (.cells #[.slice none 0 0, .slice none 0 0] 30)) (w.heap.size + 1) 30 #[.slice none 0 0, .slice none 0 0] := by
        have hk := Blk.new (w.alloc (.cells #[.slice A r.keys.length c, .slice B r.grs.length d] 30)) 30 #[.slice none 0 0, .slice none 0 0]
        simp only [World.size_alloc] at hk
        exact hk
      have hsw0 : w.heap.size + 2 ≤ ((w.alloc (.cells #[.slice A r.keys.length c, .slice B r.grs.length d] 30)).alloc (.cells #[.slice none 0 0, .slice none 0 0] 30)).heap.size := by simp only [World.size_alloc]; omega
      generalize ((w.alloc (.cells #[.slice A r.keys.length c, .slice B r.grs.length d] 30)).alloc (.cells #[.slice none 0 0, .slice none 0 0] 30)) = w0 at *
      have ck0 := k0.cell
      have fk0 := k0.frozen
      have ck1 := k1.cell
      have fk1 := k1.frozen
      refine (specRingOk_any r _ _ _ _ _ (Nat.le_trans hhi hbw0.size) (sl_keep RInt.loc ha hbw0 hhi) (sl_keep RGr.loc h hbw0 hhi) true (by simp only [true_iff]; exact H1.out.1)).mono ?_
      rintro e w1 ⟨rfl, b1⟩
      replace k0 := blk_keep k0 b1
      replace ck0 := k0.cell
      replace fk0 := k0.frozen
      replace k1 := blk_keep k1 b1
      replace ck1 := k1.cell
      replace fk1 := k1.frozen
      have z0 := hsw0
      have z1 := b1.size
      replace hbw0 := below_below hbw0 b1
      go_wp2_with fail
      refine (l6In_yes _ _ _ H1.out.2.1 H1.out.2.2 _).mono ?_
      rintro e w2 ⟨rfl, rfl⟩
      go_wp2_with fail
      refine (l33Copy_any r _ _ _ _ _ (Nat.le_trans hhi hbw0.size) (sl_keep RInt.loc ha hbw0 hhi) (sl_keep RGr.loc h hbw0 hhi) hl1 hl2).mono ?_
      rintro e w2 ⟨v1, v2, rfl, o1, b2⟩
      replace k0 := blk_keep k0 b2
      replace ck0 := k0.cell
      replace fk0 := k0.frozen
      replace k1 := blk_keep k1 b2
      replace ck1 := k1.cell
      replace fk1 := k1.frozen
      replace hbw0 := below_below hbw0 b2
      have z2 := b2.size
      obtain ⟨A1, c1, rfl⟩ := o1.keys.form
      obtain ⟨A2, c2, rfl⟩ := o1.grs.form
      have ax := below_alloc w2 (.cells #[.slice A1 r.keys.length c1, .slice A2 r.grs.length c2] 30)
      have ka0 := (blk_keep k0 ax).cell
      go_wp2_with fail
      have hbwx : Below w2.heap.size w2 (w2.alloc (.cells #[.slice A1 r.keys.length c1, .slice A2 r.grs.length c2] 30)) := below_alloc _ _
      have m0 : Blk (w2.alloc (.cells #[.slice A1 r.keys.length c1, .slice A2 r.grs.length c2] 30)) (w2.heap.size) 30 #[.slice A1 r.keys.length c1, .slice A2 r.grs.length c2] := by
        have hk := Blk.new w2 30 #[.slice A1 r.keys.length c1, .slice A2 r.grs.length c2]
        exact hk
      have hswx : w2.heap.size + 1 ≤ (w2.alloc (.cells #[.slice A1 r.keys.length c1, .slice A2 r.grs.length c2] 30)).heap.size := by simp only [World.size_alloc]; omega
      generalize (w2.alloc (.cells #[.slice A1 r.keys.length c1, .slice A2 r.grs.length c2] 30)) = wx at *
      have cm0 := m0.cell
      have fm0 := m0.frozen
      replace k0 := blk_keep k0 hbwx
      replace ck0 := k0.cell
      replace fk0 := k0.frozen
      replace k1 := blk_keep k1 hbwx
      replace ck1 := k1.cell
      replace fk1 := k1.frozen
      replace hbw0 := below_below hbw0 hbwx
      have om := o1.below hbwx
      refine (l33At_any r mm _ _ _ lo hi (Nat.le_trans hhi hbw0.size) (sl_keep RGr.loc h hbw0 hhi)).mono ?_
      rintro e w3 ⟨rfl, b3⟩
      clear ka0 ax
      replace k0 := blk_keep k0 b3
      replace ck0 := k0.cell
      replace fk0 := k0.frozen
      replace k1 := blk_keep k1 b3
      replace ck1 := k1.cell
      replace fk1 := k1.frozen
      replace m0 := blk_keep m0 b3
      replace cm0 := m0.cell
      replace fm0 := m0.frozen
      replace hbw0 := below_below hbw0 b3
      replace om := om.below b3
      have z3 := b3.size
      have x1 := blk_alloc (blk_alloc m0 (.cells #[.int .i64 mm, .int .i64 r.keys.length, .int .i64 0] 37)) (.cells #[] 37)
      have x1c := x1.cell
      have x1f := x1.frozen
      go_wp2_with fail
      clear hix x1 x1c x1f
      have hbwl : Below w3.heap.size w3 ((w3.alloc (.cells #[.int .i64 mm, .int .i64 r.keys.length, .int .i64 0] 37)).alloc (.cells #[] 37)) := below_alloc' (below_alloc _ _) _
      have q0 : Blk ((w3.alloc (.cells #[.int .i64 mm, .int .i64 r.keys.length, .int .i64 0] 37)).alloc (.cells #[] 37)) (w3.heap.size) 37 #[.int .i64 mm, .int .i64 r.keys.length, .int .i64 0] := by
        have hk := blk_alloc (Blk.new w3 37 #[.int .i64 mm, .int .i64 r.keys.length, .int .i64 0]) (.cells #[] 37)
        exact hk
      have q1 : Blk ((w3.alloc (.cells #[.int .i64 mm, .int .i64 r.keys.length, .int .i64 0] 37)).alloc (.cells #[] 37)) (w3.heap.size + 1) 37 #[] := by
        have hk := Blk.new (w3.alloc (.cells #[.int .i64 mm, .int .i64 r.keys.length, .int .i64 0] 37)) 37 #[]
        simp only [World.size_alloc] at hk
        exact hk
      have hswl : w3.heap.size + 2 ≤ ((w3.alloc (.cells #[.int .i64 mm, .int .i64 r.keys.length, .int .i64 0] 37)).alloc (.cells #[] 37)).heap.size := by simp only [World.size_alloc]; omega
      generalize ((w3.alloc (.cells #[.int .i64 mm, .int .i64 r.keys.length, .int .i64 0] 37)).alloc (.cells #[] 37)) = wl at *
      have cq0 := q0.cell
      have fq0 := q0.frozen
      have cq1 := q1.cell
      have fq1 := q1.frozen
      replace k0 := blk_keep k0 hbwl
      replace ck0 := k0.cell
      replace fk0 := k0.frozen
      replace k1 := blk_keep k1 hbwl
      replace ck1 := k1.cell
      replace fk1 := k1.frozen
      replace m0 := blk_keep m0 hbwl
      replace cm0 := m0.cell
      replace fm0 := m0.frozen
      have om1 := om.below hbwl
      have z4 := m0.lt
      have z5 := hswl
      replace hbw0 := (below_below hbw0 hbwl).setCell (p := ⟨w2.heap.size, 1, none⟩) (by dsimp only; omega) (.slice (some ⟨w3.heap.size + 1, 0, none⟩) 0 0)
      have hk := om1.keys.set_ne (p := ⟨w2.heap.size, 1, none⟩) (.slice (some ⟨w3.heap.size + 1, 0, none⟩) 0 0) (fun b hb => by have h5 := o1.keys.at_ hb; dsimp only; omega)
      replace m0 := m0.set_ 1 (.slice (some ⟨w3.heap.size + 1, 0, none⟩) 0 0)
      simp only [List.setIfInBounds_toArray, List.set_cons_zero, List.set_cons_succ] at m0
      replace k0 := blk_ne k0 (p := ⟨w2.heap.size, 1, none⟩) (.slice (some ⟨w3.heap.size + 1, 0, none⟩) 0 0) (by first | (dsimp only; omega) | (simp; done) | (simp; omega))
      replace k1 := blk_ne k1 (p := ⟨w2.heap.size, 1, none⟩) (.slice (some ⟨w3.heap.size + 1, 0, none⟩) 0 0) (by first | (dsimp only; omega) | (simp; done) | (simp; omega))
      replace q0 := blk_ne q0 (p := ⟨w2.heap.size, 1, none⟩) (.slice (some ⟨w3.heap.size + 1, 0, none⟩) 0 0) (by first | (dsimp only; omega) | (simp; done) | (simp; omega))
      replace q1 := blk_ne q1 (p := ⟨w2.heap.size, 1, none⟩) (.slice (some ⟨w3.heap.size + 1, 0, none⟩) 0 0) (by first | (dsimp only; omega) | (simp; done) | (simp; omega))
      have hswm : wl.heap.size ≤ (wl.setCell ⟨w2.heap.size, 1, none⟩ (.slice (some ⟨w3.heap.size + 1, 0, none⟩) 0 0)).heap.size := by simp only [World.size_setCell]; exact Nat.le_refl _
      generalize wl.setCell ⟨w2.heap.size, 1, none⟩ (.slice (some ⟨w3.heap.size + 1, 0, none⟩) 0 0) = wm at *
      replace cm0 := m0.cell
      replace fm0 := m0.frozen
      replace ck0 := k0.cell
      replace fk0 := k0.frozen
      replace ck1 := k1.cell
      replace fk1 := k1.frozen
      replace cq0 := q0.cell
      replace fq0 := q0.frozen
      replace cq1 := q1.cell
      replace fq1 := q1.frozen
      have ow : OwnF FGr 37 wm (w3.heap.size + 1) (.slice (some ⟨w3.heap.size + 1, 0, none⟩) 0 0) [] := OwnF.lit0 ⟨_, rfl, Nat.le_refl _, q1⟩
      have hd0 : ∀ b, (Value.slice A1 r.keys.length c1).ownBlock = some b → w1.heap.size ≤ b ∧ b < w2.heap.size := fun b hb => o1.keys.at_ hb
      have H3 := Lib.hid hd0
      have HK := Lib.hid hk
      clear hd0 hk om om1 b1 hbwx b3 hbwl
      go_loopw [10, 11] (fun pp i wr => ∃ (k : Nat) (put : Bool) (o : List Gr) (v : Value), k ≤ r.grs.length ∧ i = .int .i64 k ∧ pp = .bool put ∧ letSt ⟨mm, (r.keys.length : Int), 0⟩ (r.grs.take k) put o ∧ OwnF FGr 37 wr (w3.heap.size + 1) v o ∧ Blk wr w2.heap.size 30 #[.slice A1 r.keys.length c1, v] ∧ Chg (fun b => b = w2.heap.size ∨ w3.heap.size + 1 ≤ b) wm wr) (fun _ i _ => r.grs.length - (intOf i).toNat)
      case atStart => exact ⟨0, false, [], _, Nat.zero_le _, rfl, rfl, letSt_nil _, ow, m0, Chg.refl _ _⟩
      case round =>
        obtain ⟨k, put, o, v, hk, rfl, rfl, hst, ho, hm, hc⟩ := hrel
        have HST := Lib.hid hst; clear hst
        obtain ⟨A3, c3, rfl⟩ := ho.form
        replace k0 := blk_chg k0 hc (by omega)
        replace k1 := blk_chg k1 hc (by omega)
        replace q0 := blk_chg q0 hc (by omega)
        replace ck0 := k0.cell
        replace ck1 := k1.cell
        replace fk1 := k1.frozen
        replace cq0 := q0.cell
        replace cm0 := hm.cell
        replace fm0 := hm.frozen
        have hbr : Below w.heap.size w wr := hbw0.trans (hc.below hbw0.size fun i hi hs => by omega)
        have hsr : w3.heap.size + 2 ≤ wr.heap.size := by have := hc.size; omega
        by_cases hlt : k < r.grs.length
        · obtain ⟨x, hxk⟩ := some_of_lt hlt
          obtain ⟨bb, off, rfl, hl1', hl2', h64, hw0, hw1, hw2⟩ := h.grs_at hxk
          have hcell0 := cell_keep hbr hw0
          have hcell1 := cell_keep hbr hw1
          have hcell2 := cell_keep hbr hw2
          have HX := Lib.hid hxk; clear hxk
          have hlo : o.length ≤ 1048577 := by have := letSt_len HST.out; rw [List.length_take] at this; omega
          have hv : ∀ b, (Value.slice A3 o.length c3).ownBlock = some b → w3.heap.size + 1 ≤ b := fun b hb => (ho.at_ hb).1
          have HV := Lib.hid hv; clear hv
          cases put
          · by_cases hg : mm < x.m
            · have HG := Lib.hid hg
              go_wp2_with (at_builtin; refine app_flat (F := FGr) (v := .slice A3 o.length c3) rfl (.tmp 57) (.tmp 59) 28 rfl elem_gr ⟨mm, (r.keys.length : Int), 0⟩ rfl ho rfl rfl (by omega) (by omega) ?_; intro v4 w4 o4 ch4 at4; obtain ⟨A4, c4, rfl⟩ := o4.form; replace hm := blk_chg hm ch4 (fun hs => by have := HV.out _ hs; omega); replace k0 := blk_chg k0 ch4 (fun hs => by have := HV.out _ hs; omega); replace k1 := blk_chg k1 ch4 (fun hs => by have := HV.out _ hs; omega); replace q0 := blk_chg q0 ch4 (fun hs => by have := HV.out _ hs; omega); replace cm0 := hm.cell; replace fm0 := hm.frozen; replace ck0 := k0.cell)
              have hc4 := (hc.trans ch4 (fun i _ hs => .inr (HV.out i hs))).setCell (p := ⟨w2.heap.size, 1, none⟩) (.inl (.inl rfl)) (.slice A4 (o ++ [(⟨mm, (r.keys.length : Int), 0⟩ : Gr)]).length c4)
              have o5 := o4.set_ne (p := ⟨w2.heap.size, 1, none⟩) (.slice A4 (o ++ [(⟨mm, (r.keys.length : Int), 0⟩ : Gr)]).length c4) (fun b hb => by have := (o4.at_ hb).1; dsimp only; omega)
              replace hm := hm.set_ 1 (.slice A4 (o ++ [(⟨mm, (r.keys.length : Int), 0⟩ : Gr)]).length c4)
              replace k0 := blk_ne k0 (p := ⟨w2.heap.size, 1, none⟩) (.slice A4 (o ++ [(⟨mm, (r.keys.length : Int), 0⟩ : Gr)]).length c4) (by dsimp only; omega)
              have hz4 : wr.heap.size ≤ (w4.setCell ⟨w2.heap.size, 1, none⟩ (.slice A4 (o ++ [(⟨mm, (r.keys.length : Int), 0⟩ : Gr)]).length c4)).heap.size := by rw [World.size_setCell]; exact ch4.size
              simp only [List.setIfInBounds_toArray, List.set_cons_zero, List.set_cons_succ] at hm
              have hst5 := letSt_put HST.out HG.out
              obtain ⟨o', ho'⟩ : ∃ o', o' = o ++ [(⟨mm, (r.keys.length : Int), 0⟩ : Gr)] := ⟨_, rfl⟩
              simp only [List.length_append, List.length_cons, List.length_nil, Nat.zero_add] at o5
              rw [← ho'] at hst5 o5
              have hl' : o'.length = o.length + 1 := by rw [ho', List.length_append]; rfl
              have HO' := Lib.hid ho'; clear ho'
              simp only [List.length_append, List.length_cons, List.length_nil, Nat.zero_add] at hc4 hm k0 hz4
              clear o4 at4 ck0 cm0 fm0 ch4
              generalize w4.setCell ⟨w2.heap.size, 1, none⟩ (.slice A4 (o.length + 1) c4) = w5 at *
              rw [← hl'] at hm o5
              have hlo' : o'.length ≤ 1048578 := by omega
              have HL' := Lib.hid hl'; clear hl'
              have HST5 := Lib.hid hst5; clear hst5
              have cm0 := hm.cell
              have fm0 := hm.frozen
              have hb5 : Below w.heap.size w w5 := hbw0.trans (hc4.below hbw0.size fun i hi hs => by omega)
              have e0 : w5.cell? ⟨bb, off + k * 3, none⟩ = some (.int .i64 x.m) := cell_keep hb5 hw0
              have e1 : w5.cell? ⟨bb, off + k * 3 + 1, none⟩ = some (.int .i64 x.f) := cell_keep hb5 hw1
              have e2 : w5.cell? ⟨bb, off + k * 3 + 2, none⟩ = some (.int .i64 x.t) := cell_keep hb5 hw2
              have f0 : w5.cell? ⟨w.heap.size, 1, none⟩ = some (.slice (some ⟨bb, off, none⟩) r.grs.length d) := k0.cell 1
              have f1 : w5.cell? ⟨w2.heap.size, 1, none⟩ = some (.slice A4 o'.length c4) := hm.cell 1
              have past0 := past_cell f0
              have past1 := past_cell f1
              have past2 := past_cell e0
              have past3 := past_cell e1
              have past4 := past_cell e2
              refine region_pastT 8 [0, 1, 2, 3, 4, 5, 6] [7] (by kernel_rfl) (by kernel_rfl) (by kernel_rfl) ?_
              simp only [pick, List.map, List.getD_cons_zero, List.getD_cons_succ]
              repeat (go_big_quiet_step (fail))
              refine wpQuiet_nil ?_
              clear past0 past1 past2 past3 past4
              apply Exists.intro
              apply past_any (Lit1 w5.heap.size 37 #[.int .i64 x.m, .int .i64 x.f, .int .i64 x.t])
              · rfl
              · exact fun v x y h hle => h.keep hle
              · intro x _ Qx hQ'
                have hQ := Lib.hid hQ'; clear hQ'
                go_wp2_with fail
                exact hQ.out _ _ (below_alloc _ _) (Lit1.new _ _ _ x.ok.size)
              intro v7
              simp only [Act.put, List.setIfInBounds_toArray, List.set_cons_zero, List.set_cons_succ]
              refine past_end ?_
              intro w7 hb7 xx hxx hF
              dsimp only [allF] at hF
              try rw [hxx] at hF
              clear hxx xx
              obtain ⟨⟨g7, rfl, hg7, hk7⟩, -⟩ := hF
              have o7 := OwnF.below o5 hb7
              have hv7 : ∀ b, (Value.slice A4 o'.length c4).ownBlock = some b → w3.heap.size + 1 ≤ b := fun b hb => (o7.at_ hb).1
              have HV7 := Lib.hid hv7; clear hv7
              replace hm := blk_keep hm hb7
              replace cm0 := hm.cell
              replace fm0 := hm.frozen
              have hz7 := hb7.size
              have hc7 := hc4.trans (Chg.of_below (S := fun _ => False) hb7) (fun i _ hs => hs.elim)
              simp only [List.drop]
              go_wp2_with (at_builtin; refine app_flatB (F := FGr) (v := .slice A4 o'.length c4) rfl (.tmp 63) (.tmp 69) 28 rfl elem_gr x rfl o7 rfl hk7 rfl (by omega) (by omega) ?_; intro v8 w8 o8 ch8 at8; obtain ⟨A8, c8, rfl⟩ := o8.form; replace hm := blk_chg hm ch8 (fun hs => by have := HV7.out _ hs; omega); replace cm0 := hm.cell; replace fm0 := hm.frozen)
              have hc8 := (hc7.trans ch8 (fun i _ hs => .inr (HV7.out i hs))).setCell (p := ⟨w2.heap.size, 1, none⟩) (.inl (.inl rfl)) (.slice A8 (o' ++ [x]).length c8)
              have o9 := o8.set_ne (p := ⟨w2.heap.size, 1, none⟩) (.slice A8 (o' ++ [x]).length c8) (fun b hb => by have := (o8.at_ hb).1; dsimp only; omega)
              replace hm := hm.set_ 1 (.slice A8 (o' ++ [x]).length c8)
              simp only [List.setIfInBounds_toArray, List.set_cons_zero, List.set_cons_succ] at hm
              have hst9 := HST5.out
              rw [← take_succ HX.out] at hst9
              have HST9 := Lib.hid hst9; clear hst9
              simp only [List.length_append, List.length_cons, List.length_nil, Nat.zero_add] at hc8 o9 hm
              go_roundw
              case rel => first | exact ⟨k + 1, true, _, _, by omega, by go_num, rfl, HST9.out, o9, hm, hc8⟩ | ((repeat apply Exists.intro); refine ⟨?_, rfl⟩; exact ⟨k + 1, true, _, _, by omega, by go_num, rfl, HST9.out, o9, hm, hc8⟩)
              case measure => simp [intOf]; omega
            · have hg' : x.m ≤ mm := by omega
              have HG := Lib.hid hg'
              go_wp2_with fail
              have e0 : wr.cell? ⟨bb, off + k * 3, none⟩ = some (.int .i64 x.m) := cell_keep hbr hw0
              have e1 : wr.cell? ⟨bb, off + k * 3 + 1, none⟩ = some (.int .i64 x.f) := cell_keep hbr hw1
              have e2 : wr.cell? ⟨bb, off + k * 3 + 2, none⟩ = some (.int .i64 x.t) := cell_keep hbr hw2
              have f0 : wr.cell? ⟨w.heap.size, 1, none⟩ = some (.slice (some ⟨bb, off, none⟩) r.grs.length d) := k0.cell 1
              have f1 : wr.cell? ⟨w2.heap.size, 1, none⟩ = some (.slice A3 o.length c3) := hm.cell 1
              have past0 := past_cell f0
              have past1 := past_cell f1
              have past2 := past_cell e0
              have past3 := past_cell e1
              have past4 := past_cell e2
              refine region_pastT 8 [0, 1, 2, 3, 4, 5, 6] [7] (by kernel_rfl) (by kernel_rfl) (by kernel_rfl) ?_
              simp only [pick, List.map, List.getD_cons_zero, List.getD_cons_succ]
              repeat (go_big_quiet_step (fail))
              refine wpQuiet_nil ?_
              clear past0 past1 past2 past3 past4
              apply Exists.intro
              apply past_any (Lit1 wr.heap.size 37 #[.int .i64 x.m, .int .i64 x.f, .int .i64 x.t])
              · rfl
              · exact fun v x y h hle => h.keep hle
              · intro x _ Qx hQ'
                have hQ := Lib.hid hQ'; clear hQ'
                go_wp2_with fail
                exact hQ.out _ _ (below_alloc _ _) (Lit1.new _ _ _ x.ok.size)
              intro v7
              simp only [Act.put, List.setIfInBounds_toArray, List.set_cons_zero, List.set_cons_succ]
              refine past_end ?_
              intro w7 hb7 xx hxx hF
              dsimp only [allF] at hF
              try rw [hxx] at hF
              clear hxx xx
              obtain ⟨⟨g7, rfl, hg7, hk7⟩, -⟩ := hF
              have o7 := OwnF.below ho hb7
              have hv7 : ∀ b, (Value.slice A3 o.length c3).ownBlock = some b → w3.heap.size + 1 ≤ b := fun b hb => (o7.at_ hb).1
              have HV7 := Lib.hid hv7; clear hv7
              replace hm := blk_keep hm hb7
              replace cm0 := hm.cell
              replace fm0 := hm.frozen
              have hz7 := hb7.size
              have hc7 := hc.trans (Chg.of_below (S := fun _ => False) hb7) (fun i _ hs => hs.elim)
              simp only [List.drop]
              go_wp2_with (at_builtin; refine app_flatB (F := FGr) (v := .slice A3 o.length c3) rfl (.tmp 63) (.tmp 69) 28 rfl elem_gr x rfl o7 rfl hk7 rfl (by omega) (by omega) ?_; intro v8 w8 o8 ch8 at8; obtain ⟨A8, c8, rfl⟩ := o8.form; replace hm := blk_chg hm ch8 (fun hs => by have := HV7.out _ hs; omega); replace cm0 := hm.cell; replace fm0 := hm.frozen)
              have hc8 := (hc7.trans ch8 (fun i _ hs => .inr (HV7.out i hs))).setCell (p := ⟨w2.heap.size, 1, none⟩) (.inl (.inl rfl)) (.slice A8 (o ++ [x]).length c8)
              have o9 := o8.set_ne (p := ⟨w2.heap.size, 1, none⟩) (.slice A8 (o ++ [x]).length c8) (fun b hb => by have := (o8.at_ hb).1; dsimp only; omega)
              replace hm := hm.set_ 1 (.slice A8 (o ++ [x]).length c8)
              simp only [List.setIfInBounds_toArray, List.set_cons_zero, List.set_cons_succ] at hm
              have hst9 := letSt_no HST.out HG.out
              rw [← take_succ HX.out] at hst9
              have HST9 := Lib.hid hst9; clear hst9
              simp only [List.length_append, List.length_cons, List.length_nil, Nat.zero_add] at hc8 o9 hm
              go_roundw
              case rel => first | exact ⟨k + 1, false, _, _, by omega, by go_num, rfl, HST9.out, o9, hm, hc8⟩ | ((repeat apply Exists.intro); refine ⟨?_, rfl⟩; exact ⟨k + 1, false, _, _, by omega, by go_num, rfl, HST9.out, o9, hm, hc8⟩)
              case measure => simp [intOf]; omega
          · go_wp2_with fail
            have e0 : wr.cell? ⟨bb, off + k * 3, none⟩ = some (.int .i64 x.m) := cell_keep hbr hw0
            have e1 : wr.cell? ⟨bb, off + k * 3 + 1, none⟩ = some (.int .i64 x.f) := cell_keep hbr hw1
            have e2 : wr.cell? ⟨bb, off + k * 3 + 2, none⟩ = some (.int .i64 x.t) := cell_keep hbr hw2
            have f0 : wr.cell? ⟨w.heap.size, 1, none⟩ = some (.slice (some ⟨bb, off, none⟩) r.grs.length d) := k0.cell 1
            have f1 : wr.cell? ⟨w2.heap.size, 1, none⟩ = some (.slice A3 o.length c3) := hm.cell 1
            have past0 := past_cell f0
            have past1 := past_cell f1
            have past2 := past_cell e0
            have past3 := past_cell e1
            have past4 := past_cell e2
            refine region_pastT 8 [0, 1, 2, 3, 4, 5, 6] [7] (by kernel_rfl) (by kernel_rfl) (by kernel_rfl) ?_
            simp only [pick, List.map, List.getD_cons_zero, List.getD_cons_succ]
            repeat (go_big_quiet_step (fail))
            refine wpQuiet_nil ?_
            clear past0 past1 past2 past3 past4
            apply Exists.intro
            apply past_any (Lit1 wr.heap.size 37 #[.int .i64 x.m, .int .i64 x.f, .int .i64 x.t])
            · rfl
            · exact fun v x y h hle => h.keep hle
            · intro x _ Qx hQ'
              have hQ := Lib.hid hQ'; clear hQ'
              go_wp2_with fail
              exact hQ.out _ _ (below_alloc _ _) (Lit1.new _ _ _ x.ok.size)
            intro v7
            simp only [Act.put, List.setIfInBounds_toArray, List.set_cons_zero, List.set_cons_succ]
            refine past_end ?_
            intro w7 hb7 xx hxx hF
            dsimp only [allF] at hF
            try rw [hxx] at hF
            clear hxx xx
            obtain ⟨⟨g7, rfl, hg7, hk7⟩, -⟩ := hF
            have o7 := OwnF.below ho hb7
            have hv7 : ∀ b, (Value.slice A3 o.length c3).ownBlock = some b → w3.heap.size + 1 ≤ b := fun b hb => (o7.at_ hb).1
            have HV7 := Lib.hid hv7; clear hv7
            replace hm := blk_keep hm hb7
            replace cm0 := hm.cell
            replace fm0 := hm.frozen
            have hz7 := hb7.size
            have hc7 := hc.trans (Chg.of_below (S := fun _ => False) hb7) (fun i _ hs => hs.elim)
            simp only [List.drop]
            go_wp2_with (at_builtin; refine app_flatB (F := FGr) (v := .slice A3 o.length c3) rfl (.tmp 63) (.tmp 69) 28 rfl elem_gr x rfl o7 rfl hk7 rfl (by omega) (by omega) ?_; intro v8 w8 o8 ch8 at8; obtain ⟨A8, c8, rfl⟩ := o8.form; replace hm := blk_chg hm ch8 (fun hs => by have := HV7.out _ hs; omega); replace cm0 := hm.cell; replace fm0 := hm.frozen)
            have hc8 := (hc7.trans ch8 (fun i _ hs => .inr (HV7.out i hs))).setCell (p := ⟨w2.heap.size, 1, none⟩) (.inl (.inl rfl)) (.slice A8 (o ++ [x]).length c8)
            have o9 := o8.set_ne (p := ⟨w2.heap.size, 1, none⟩) (.slice A8 (o ++ [x]).length c8) (fun b hb => by have := (o8.at_ hb).1; dsimp only; omega)
            replace hm := hm.set_ 1 (.slice A8 (o ++ [x]).length c8)
            simp only [List.setIfInBounds_toArray, List.set_cons_zero, List.set_cons_succ] at hm
            have hst9 := letSt_yes (x := x) HST.out
            rw [← take_succ HX.out] at hst9
            have HST9 := Lib.hid hst9; clear hst9
            simp only [List.length_append, List.length_cons, List.length_nil, Nat.zero_add] at hc8 o9 hm
            go_roundw
            case rel => first | exact ⟨k + 1, true, _, _, by omega, by go_num, rfl, HST9.out, o9, hm, hc8⟩ | ((repeat apply Exists.intro); refine ⟨?_, rfl⟩; exact ⟨k + 1, true, _, _, by omega, by go_num, rfl, HST9.out, o9, hm, hc8⟩)
            case measure => simp [intOf]; omega
        · obtain rfl : k = r.grs.length := by omega
          have hend := HST.out
          rw [List.take_length] at hend
          have hlo : o.length ≤ 1048577 := by have := letSt_len hend; omega
          have HE := Lib.hid (letSt_end hend); clear hend
          have hkr := HK.out.chg hc (fun b hb hs => by have := H3.out b hb; omega)
          cases put
          · rcases HE.out with ⟨_, he⟩ | ⟨he, _⟩
            · have HE' := Lib.hid he; clear he
              have hv : ∀ b, (Value.slice A3 o.length c3).ownBlock = some b → w3.heap.size + 1 ≤ b := fun b hb => (ho.at_ hb).1
              have HV := Lib.hid hv; clear hv
              go_wp2_with (at_builtin; refine app_flat (F := FGr) (v := .slice A3 o.length c3) rfl (.tmp 75) (.tmp 77) 28 rfl elem_gr ⟨mm, (r.keys.length : Int), 0⟩ rfl ho rfl rfl (by omega) (by omega) ?_; intro v4 w4 o4 ch4 at4; obtain ⟨A4, c4, rfl⟩ := o4.form; replace hm := blk_chg hm ch4 (fun hs => by have := HV.out _ hs; omega); replace k1 := blk_chg k1 ch4 (fun hs => by have := HV.out _ hs; omega); replace cm0 := hm.cell; replace fm0 := hm.frozen; replace ck1 := k1.cell; replace fk1 := k1.frozen)
              have hb4 : Below w.heap.size w w4 := hbr.trans (ch4.below hbr.size fun i hi hs => by have := HV.out i hs; omega)
              have hk4 := hkr.chg ch4 (fun b hb hs => by have := H3.out b hb; have := HV.out b hs; omega)
              simp only [List.length_append, List.length_cons, List.length_nil, Nat.zero_add] at o4 at4
              have o4' : OwnF FGr 37 w4 (w3.heap.size + 1) (.slice A4 (o.length + 1) c4) (insG ⟨mm, letFrom false r, 0⟩ r.grs) := by
                have e : insG ⟨mm, letFrom false r, 0⟩ r.grs = o ++ [⟨mm, (r.keys.length : Int), 0⟩] := HE'.out
                rw [e]; exact o4
              have HO4 := Lib.hid o4'; clear o4' o4
              exact bodyPost_ret (v := .tuple #[.agg #[_, _], .bool true]) (by simp [results, Try.results43, go_sem, ck1]) rfl ⟨_, _, rfl, ⟨(((hk4.set_ne _ (fun b hb => by have := H3.out b hb; dsimp only; omega)).set_ne _ (fun b hb => by have := H3.out b hb; dsimp only; omega)).set_ne _ (fun b hb => by have := H3.out b hb; dsimp only; omega)).base (by omega), (((HO4.out.set_ _ (by dsimp only; omega)).set_ _ (by dsimp only; omega)).set_ _ (by dsimp only; omega)).base (by omega)⟩, ((hb4.setCell (by dsimp only; omega) _).setCell (by dsimp only; omega) _).setCell (by dsimp only; omega) _⟩
            · cases he
          · rcases HE.out with ⟨he, _⟩ | ⟨_, he⟩
            · cases he
            · have o4' : OwnF FGr 37 wr (w3.heap.size + 1) (.slice A3 o.length c3) (insG ⟨mm, letFrom false r, 0⟩ r.grs) := by
                have e : insG ⟨mm, letFrom false r, 0⟩ r.grs = o := he
                rw [e]; exact ho
              have HO4 := Lib.hid o4'; clear o4' ho he
              go_wp2_with fail
              exact bodyPost_ret (v := .tuple #[.agg #[_, _], .bool true]) (by simp [results, Try.results43, go_sem, ck1]) rfl ⟨_, _, rfl, ⟨((hkr.set_ne _ (fun b hb => by have := H3.out b hb; dsimp only; omega)).set_ne _ (fun b hb => by have := H3.out b hb; dsimp only; omega)).base (by omega), ((HO4.out.set_ _ (by dsimp only; omega)).set_ _ (by dsimp only; omega)).base (by omega)⟩, (hbr.setCell (by dsimp only; omega) _).setCell (by dsimp only; omega) _⟩
    · go_enter Try.func43, Try.ntmps43
      go_wp2_with fail
      have hbw0 : Below w.heap.size w ((w.alloc (.cells #[.slice A r.keys.length c, .slice B r.grs.length d] 30)).alloc (.cells #[.slice none 0 0, .slice none 0 0] 30)) := below_alloc' (below_alloc _ _) _
      have k0 : Blk ((w.alloc (.cells #[.slice A r.keys.length c, .slice B r.grs.length d] 30)).alloc (.cells #[.slice none 0 0, .slice none 0 0] 30)) (w.heap.size) 30 #[.slice A r.keys.length c, .slice B r.grs.length d] := by
        have hk := blk_alloc (Blk.new w 30 #[.slice A r.keys.length c, .slice B r.grs.length d]) (.cells #[.slice none 0 0, .slice none 0 0] 30)
        exact hk
      have k1 : Blk ((w.alloc (.cells #[.slice A r.keys.length c, .slice B r.grs.length d] 30)).alloc (.cells #[.slice none 0 0, .slice none 0 0] 30)) (w.heap.size + 1) 30 #[.slice none 0 0, .slice none 0 0] := by
        have hk := Blk.new (w.alloc (.cells #[.slice A r.keys.length c, .slice B r.grs.length d] 30)) 30 #[.slice none 0 0, .slice none 0 0]
        simp only [World.size_alloc] at hk
        exact hk
      have hsw0 : w.heap.size + 2 ≤ ((w.alloc (.cells #[.slice A r.keys.length c, .slice B r.grs.length d] 30)).alloc (.cells #[.slice none 0 0, .slice none 0 0] 30)).heap.size := by simp only [World.size_alloc]; omega
      generalize ((w.alloc (.cells #[.slice A r.keys.length c, .slice B r.grs.length d] 30)).alloc (.cells #[.slice none 0 0, .slice none 0 0] 30)) = w0 at *
      have ck0 := k0.cell
      have fk0 := k0.frozen
      have ck1 := k1.cell
      have fk1 := k1.frozen
      refine (specRingOk_any r _ _ _ _ _ (Nat.le_trans hhi hbw0.size) (sl_keep RInt.loc ha hbw0 hhi) (sl_keep RGr.loc h hbw0 hhi) true (by simp only [true_iff]; exact H1.out.1)).mono ?_
      rintro e w1 ⟨rfl, b1⟩
      replace k0 := blk_keep k0 b1
      replace ck0 := k0.cell
      replace fk0 := k0.frozen
      replace k1 := blk_keep k1 b1
      replace ck1 := k1.cell
      replace fk1 := k1.frozen
      have z0 := hsw0
      have z1 := b1.size
      replace hbw0 := below_below hbw0 b1
      go_wp2_with fail
      refine (l6In_yes _ _ _ H1.out.2.1 H1.out.2.2 _).mono ?_
      rintro e w2 ⟨rfl, rfl⟩
      go_wp2_with fail
      refine (l33Copy_any r _ _ _ _ _ (Nat.le_trans hhi hbw0.size) (sl_keep RInt.loc ha hbw0 hhi) (sl_keep RGr.loc h hbw0 hhi) hl1 hl2).mono ?_
      rintro e w2 ⟨v1, v2, rfl, o1, b2⟩
      replace k0 := blk_keep k0 b2
      replace ck0 := k0.cell
      replace fk0 := k0.frozen
      replace k1 := blk_keep k1 b2
      replace ck1 := k1.cell
      replace fk1 := k1.frozen
      replace hbw0 := below_below hbw0 b2
      have z2 := b2.size
      obtain ⟨A1, c1, rfl⟩ := o1.keys.form
      obtain ⟨A2, c2, rfl⟩ := o1.grs.form
      have ax := below_alloc w2 (.cells #[.slice A1 r.keys.length c1, .slice A2 r.grs.length c2] 30)
      have ka0 := (blk_keep k0 ax).cell
      go_wp2_with fail
      have hbwx : Below w2.heap.size w2 (w2.alloc (.cells #[.slice A1 r.keys.length c1, .slice A2 r.grs.length c2] 30)) := below_alloc _ _
      have m0 : Blk (w2.alloc (.cells #[.slice A1 r.keys.length c1, .slice A2 r.grs.length c2] 30)) (w2.heap.size) 30 #[.slice A1 r.keys.length c1, .slice A2 r.grs.length c2] := by
        have hk := Blk.new w2 30 #[.slice A1 r.keys.length c1, .slice A2 r.grs.length c2]
        exact hk
      have hswx : w2.heap.size + 1 ≤ (w2.alloc (.cells #[.slice A1 r.keys.length c1, .slice A2 r.grs.length c2] 30)).heap.size := by simp only [World.size_alloc]; omega
      generalize (w2.alloc (.cells #[.slice A1 r.keys.length c1, .slice A2 r.grs.length c2] 30)) = wx at *
      have cm0 := m0.cell
      have fm0 := m0.frozen
      replace k0 := blk_keep k0 hbwx
      replace ck0 := k0.cell
      replace fk0 := k0.frozen
      replace k1 := blk_keep k1 hbwx
      replace ck1 := k1.cell
      replace fk1 := k1.frozen
      replace hbw0 := below_below hbw0 hbwx
      have om := o1.below hbwx
      refine (l33At_any r mm _ _ _ lo hi (Nat.le_trans hhi hbw0.size) (sl_keep RGr.loc h hbw0 hhi)).mono ?_
      rintro e w3 ⟨rfl, b3⟩
      clear ka0 ax
      replace k0 := blk_keep k0 b3
      replace ck0 := k0.cell
      replace fk0 := k0.frozen
      replace k1 := blk_keep k1 b3
      replace ck1 := k1.cell
      replace fk1 := k1.frozen
      replace m0 := blk_keep m0 b3
      replace cm0 := m0.cell
      replace fm0 := m0.frozen
      replace hbw0 := below_below hbw0 b3
      replace om := om.below b3
      have z3 := b3.size
      have x1 := blk_alloc (blk_alloc m0 (.cells #[.int .i64 mm, .int .i64 1, .int .i64 0] 37)) (.cells #[] 37)
      have x1c := x1.cell
      have x1f := x1.frozen
      go_wp2_with fail
      clear hix x1 x1c x1f
      have hbwl : Below w3.heap.size w3 ((w3.alloc (.cells #[.int .i64 mm, .int .i64 1, .int .i64 0] 37)).alloc (.cells #[] 37)) := below_alloc' (below_alloc _ _) _
      have q0 : Blk ((w3.alloc (.cells #[.int .i64 mm, .int .i64 1, .int .i64 0] 37)).alloc (.cells #[] 37)) (w3.heap.size) 37 #[.int .i64 mm, .int .i64 1, .int .i64 0] := by
        have hk := blk_alloc (Blk.new w3 37 #[.int .i64 mm, .int .i64 1, .int .i64 0]) (.cells #[] 37)
        exact hk
      have q1 : Blk ((w3.alloc (.cells #[.int .i64 mm, .int .i64 1, .int .i64 0] 37)).alloc (.cells #[] 37)) (w3.heap.size + 1) 37 #[] := by
        have hk := Blk.new (w3.alloc (.cells #[.int .i64 mm, .int .i64 1, .int .i64 0] 37)) 37 #[]
        simp only [World.size_alloc] at hk
        exact hk
      have hswl : w3.heap.size + 2 ≤ ((w3.alloc (.cells #[.int .i64 mm, .int .i64 1, .int .i64 0] 37)).alloc (.cells #[] 37)).heap.size := by simp only [World.size_alloc]; omega
      generalize ((w3.alloc (.cells #[.int .i64 mm, .int .i64 1, .int .i64 0] 37)).alloc (.cells #[] 37)) = wl at *
      have cq0 := q0.cell
      have fq0 := q0.frozen
      have cq1 := q1.cell
      have fq1 := q1.frozen
      replace k0 := blk_keep k0 hbwl
      replace ck0 := k0.cell
      replace fk0 := k0.frozen
      replace k1 := blk_keep k1 hbwl
      replace ck1 := k1.cell
      replace fk1 := k1.frozen
      replace m0 := blk_keep m0 hbwl
      replace cm0 := m0.cell
      replace fm0 := m0.frozen
      have om1 := om.below hbwl
      have z4 := m0.lt
      have z5 := hswl
      replace hbw0 := (below_below hbw0 hbwl).setCell (p := ⟨w2.heap.size, 1, none⟩) (by dsimp only; omega) (.slice (some ⟨w3.heap.size + 1, 0, none⟩) 0 0)
      have hk := om1.keys.set_ne (p := ⟨w2.heap.size, 1, none⟩) (.slice (some ⟨w3.heap.size + 1, 0, none⟩) 0 0) (fun b hb => by have h5 := o1.keys.at_ hb; dsimp only; omega)
      replace m0 := m0.set_ 1 (.slice (some ⟨w3.heap.size + 1, 0, none⟩) 0 0)
      simp only [List.setIfInBounds_toArray, List.set_cons_zero, List.set_cons_succ] at m0
      replace k0 := blk_ne k0 (p := ⟨w2.heap.size, 1, none⟩) (.slice (some ⟨w3.heap.size + 1, 0, none⟩) 0 0) (by first | (dsimp only; omega) | (simp; done) | (simp; omega))
      replace k1 := blk_ne k1 (p := ⟨w2.heap.size, 1, none⟩) (.slice (some ⟨w3.heap.size + 1, 0, none⟩) 0 0) (by first | (dsimp only; omega) | (simp; done) | (simp; omega))
      replace q0 := blk_ne q0 (p := ⟨w2.heap.size, 1, none⟩) (.slice (some ⟨w3.heap.size + 1, 0, none⟩) 0 0) (by first | (dsimp only; omega) | (simp; done) | (simp; omega))
      replace q1 := blk_ne q1 (p := ⟨w2.heap.size, 1, none⟩) (.slice (some ⟨w3.heap.size + 1, 0, none⟩) 0 0) (by first | (dsimp only; omega) | (simp; done) | (simp; omega))
      have hswm : wl.heap.size ≤ (wl.setCell ⟨w2.heap.size, 1, none⟩ (.slice (some ⟨w3.heap.size + 1, 0, none⟩) 0 0)).heap.size := by simp only [World.size_setCell]; exact Nat.le_refl _
      generalize wl.setCell ⟨w2.heap.size, 1, none⟩ (.slice (some ⟨w3.heap.size + 1, 0, none⟩) 0 0) = wm at *
      replace cm0 := m0.cell
      replace fm0 := m0.frozen
      replace ck0 := k0.cell
      replace fk0 := k0.frozen
      replace ck1 := k1.cell
      replace fk1 := k1.frozen
      replace cq0 := q0.cell
      replace fq0 := q0.frozen
      replace cq1 := q1.cell
      replace fq1 := q1.frozen
      have ow : OwnF FGr 37 wm (w3.heap.size + 1) (.slice (some ⟨w3.heap.size + 1, 0, none⟩) 0 0) [] := OwnF.lit0 ⟨_, rfl, Nat.le_refl _, q1⟩
      have hd0 : ∀ b, (Value.slice A1 r.keys.length c1).ownBlock = some b → w1.heap.size ≤ b ∧ b < w2.heap.size := fun b hb => o1.keys.at_ hb
      have H3 := Lib.hid hd0
      have HK := Lib.hid hk
      clear hd0 hk om om1 b1 hbwx b3 hbwl
      go_loopw [10, 11] (fun pp i wr => ∃ (k : Nat) (put : Bool) (o : List Gr) (v : Value), k ≤ r.grs.length ∧ i = .int .i64 k ∧ pp = .bool put ∧ letSt ⟨mm, 1, 0⟩ (r.grs.take k) put o ∧ OwnF FGr 37 wr (w3.heap.size + 1) v o ∧ Blk wr w2.heap.size 30 #[.slice A1 r.keys.length c1, v] ∧ Chg (fun b => b = w2.heap.size ∨ w3.heap.size + 1 ≤ b) wm wr) (fun _ i _ => r.grs.length - (intOf i).toNat)
      case atStart => exact ⟨0, false, [], _, Nat.zero_le _, rfl, rfl, letSt_nil _, ow, m0, Chg.refl _ _⟩
      case round =>
        obtain ⟨k, put, o, v, hk, rfl, rfl, hst, ho, hm, hc⟩ := hrel
        have HST := Lib.hid hst; clear hst
        obtain ⟨A3, c3, rfl⟩ := ho.form
        replace k0 := blk_chg k0 hc (by omega)
        replace k1 := blk_chg k1 hc (by omega)
        replace q0 := blk_chg q0 hc (by omega)
        replace ck0 := k0.cell
        replace ck1 := k1.cell
        replace fk1 := k1.frozen
        replace cq0 := q0.cell
        replace cm0 := hm.cell
        replace fm0 := hm.frozen
        have hbr : Below w.heap.size w wr := hbw0.trans (hc.below hbw0.size fun i hi hs => by omega)
        have hsr : w3.heap.size + 2 ≤ wr.heap.size := by have := hc.size; omega
        by_cases hlt : k < r.grs.length
        · obtain ⟨x, hxk⟩ := some_of_lt hlt
          obtain ⟨bb, off, rfl, hl1', hl2', h64, hw0, hw1, hw2⟩ := h.grs_at hxk
          have hcell0 := cell_keep hbr hw0
          have hcell1 := cell_keep hbr hw1
          have hcell2 := cell_keep hbr hw2
          have HX := Lib.hid hxk; clear hxk
          have hlo : o.length ≤ 1048577 := by have := letSt_len HST.out; rw [List.length_take] at this; omega
          have hv : ∀ b, (Value.slice A3 o.length c3).ownBlock = some b → w3.heap.size + 1 ≤ b := fun b hb => (ho.at_ hb).1
          have HV := Lib.hid hv; clear hv
          cases put
          · by_cases hg : mm < x.m
            · have HG := Lib.hid hg
              go_wp2_with (at_builtin; refine app_flat (F := FGr) (v := .slice A3 o.length c3) rfl (.tmp 57) (.tmp 59) 28 rfl elem_gr ⟨mm, 1, 0⟩ rfl ho rfl rfl (by omega) (by omega) ?_; intro v4 w4 o4 ch4 at4; obtain ⟨A4, c4, rfl⟩ := o4.form; replace hm := blk_chg hm ch4 (fun hs => by have := HV.out _ hs; omega); replace k0 := blk_chg k0 ch4 (fun hs => by have := HV.out _ hs; omega); replace k1 := blk_chg k1 ch4 (fun hs => by have := HV.out _ hs; omega); replace q0 := blk_chg q0 ch4 (fun hs => by have := HV.out _ hs; omega); replace cm0 := hm.cell; replace fm0 := hm.frozen; replace ck0 := k0.cell)
              have hc4 := (hc.trans ch4 (fun i _ hs => .inr (HV.out i hs))).setCell (p := ⟨w2.heap.size, 1, none⟩) (.inl (.inl rfl)) (.slice A4 (o ++ [(⟨mm, 1, 0⟩ : Gr)]).length c4)
              have o5 := o4.set_ne (p := ⟨w2.heap.size, 1, none⟩) (.slice A4 (o ++ [(⟨mm, 1, 0⟩ : Gr)]).length c4) (fun b hb => by have := (o4.at_ hb).1; dsimp only; omega)
              replace hm := hm.set_ 1 (.slice A4 (o ++ [(⟨mm, 1, 0⟩ : Gr)]).length c4)
              replace k0 := blk_ne k0 (p := ⟨w2.heap.size, 1, none⟩) (.slice A4 (o ++ [(⟨mm, 1, 0⟩ : Gr)]).length c4) (by dsimp only; omega)
              have hz4 : wr.heap.size ≤ (w4.setCell ⟨w2.heap.size, 1, none⟩ (.slice A4 (o ++ [(⟨mm, 1, 0⟩ : Gr)]).length c4)).heap.size := by rw [World.size_setCell]; exact ch4.size
              simp only [List.setIfInBounds_toArray, List.set_cons_zero, List.set_cons_succ] at hm
              have hst5 := letSt_put HST.out HG.out
              obtain ⟨o', ho'⟩ : ∃ o', o' = o ++ [(⟨mm, 1, 0⟩ : Gr)] := ⟨_, rfl⟩
              simp only [List.length_append, List.length_cons, List.length_nil, Nat.zero_add] at o5
              rw [← ho'] at hst5 o5
              have hl' : o'.length = o.length + 1 := by rw [ho', List.length_append]; rfl
              have HO' := Lib.hid ho'; clear ho'
              simp only [List.length_append, List.length_cons, List.length_nil, Nat.zero_add] at hc4 hm k0 hz4
              clear o4 at4 ck0 cm0 fm0 ch4
              generalize w4.setCell ⟨w2.heap.size, 1, none⟩ (.slice A4 (o.length + 1) c4) = w5 at *
              rw [← hl'] at hm o5
              have hlo' : o'.length ≤ 1048578 := by omega
              have HL' := Lib.hid hl'; clear hl'
              have HST5 := Lib.hid hst5; clear hst5
              have cm0 := hm.cell
              have fm0 := hm.frozen
              have hb5 : Below w.heap.size w w5 := hbw0.trans (hc4.below hbw0.size fun i hi hs => by omega)
              have e0 : w5.cell? ⟨bb, off + k * 3, none⟩ = some (.int .i64 x.m) := cell_keep hb5 hw0
              have e1 : w5.cell? ⟨bb, off + k * 3 + 1, none⟩ = some (.int .i64 x.f) := cell_keep hb5 hw1
              have e2 : w5.cell? ⟨bb, off + k * 3 + 2, none⟩ = some (.int .i64 x.t) := cell_keep hb5 hw2
              have f0 : w5.cell? ⟨w.heap.size, 1, none⟩ = some (.slice (some ⟨bb, off, none⟩) r.grs.length d) := k0.cell 1
              have f1 : w5.cell? ⟨w2.heap.size, 1, none⟩ = some (.slice A4 o'.length c4) := hm.cell 1
              have past0 := past_cell f0
              have past1 := past_cell f1
              have past2 := past_cell e0
              have past3 := past_cell e1
              have past4 := past_cell e2
              refine region_pastT 8 [0, 1, 2, 3, 4, 5, 6] [7] (by kernel_rfl) (by kernel_rfl) (by kernel_rfl) ?_
              simp only [pick, List.map, List.getD_cons_zero, List.getD_cons_succ]
              repeat (go_big_quiet_step (fail))
              refine wpQuiet_nil ?_
              clear past0 past1 past2 past3 past4
              apply Exists.intro
              apply past_any (Lit1 w5.heap.size 37 #[.int .i64 x.m, .int .i64 x.f, .int .i64 x.t])
              · rfl
              · exact fun v x y h hle => h.keep hle
              · intro x _ Qx hQ'
                have hQ := Lib.hid hQ'; clear hQ'
                go_wp2_with fail
                exact hQ.out _ _ (below_alloc _ _) (Lit1.new _ _ _ x.ok.size)
              intro v7
              simp only [Act.put, List.setIfInBounds_toArray, List.set_cons_zero, List.set_cons_succ]
              refine past_end ?_
              intro w7 hb7 xx hxx hF
              dsimp only [allF] at hF
              try rw [hxx] at hF
              clear hxx xx
              obtain ⟨⟨g7, rfl, hg7, hk7⟩, -⟩ := hF
              have o7 := OwnF.below o5 hb7
              have hv7 : ∀ b, (Value.slice A4 o'.length c4).ownBlock = some b → w3.heap.size + 1 ≤ b := fun b hb => (o7.at_ hb).1
              have HV7 := Lib.hid hv7; clear hv7
              replace hm := blk_keep hm hb7
              replace cm0 := hm.cell
              replace fm0 := hm.frozen
              have hz7 := hb7.size
              have hc7 := hc4.trans (Chg.of_below (S := fun _ => False) hb7) (fun i _ hs => hs.elim)
              simp only [List.drop]
              go_wp2_with (at_builtin; refine app_flatB (F := FGr) (v := .slice A4 o'.length c4) rfl (.tmp 63) (.tmp 69) 28 rfl elem_gr x rfl o7 rfl hk7 rfl (by omega) (by omega) ?_; intro v8 w8 o8 ch8 at8; obtain ⟨A8, c8, rfl⟩ := o8.form; replace hm := blk_chg hm ch8 (fun hs => by have := HV7.out _ hs; omega); replace cm0 := hm.cell; replace fm0 := hm.frozen)
              have hc8 := (hc7.trans ch8 (fun i _ hs => .inr (HV7.out i hs))).setCell (p := ⟨w2.heap.size, 1, none⟩) (.inl (.inl rfl)) (.slice A8 (o' ++ [x]).length c8)
              have o9 := o8.set_ne (p := ⟨w2.heap.size, 1, none⟩) (.slice A8 (o' ++ [x]).length c8) (fun b hb => by have := (o8.at_ hb).1; dsimp only; omega)
              replace hm := hm.set_ 1 (.slice A8 (o' ++ [x]).length c8)
              simp only [List.setIfInBounds_toArray, List.set_cons_zero, List.set_cons_succ] at hm
              have hst9 := HST5.out
              rw [← take_succ HX.out] at hst9
              have HST9 := Lib.hid hst9; clear hst9
              simp only [List.length_append, List.length_cons, List.length_nil, Nat.zero_add] at hc8 o9 hm
              go_roundw
              case rel => first | exact ⟨k + 1, true, _, _, by omega, by go_num, rfl, HST9.out, o9, hm, hc8⟩ | ((repeat apply Exists.intro); refine ⟨?_, rfl⟩; exact ⟨k + 1, true, _, _, by omega, by go_num, rfl, HST9.out, o9, hm, hc8⟩)
              case measure => simp [intOf]; omega
            · have hg' : x.m ≤ mm := by omega
              have HG := Lib.hid hg'
              go_wp2_with fail
              have e0 : wr.cell? ⟨bb, off + k * 3, none⟩ = some (.int .i64 x.m) := cell_keep hbr hw0
              have e1 : wr.cell? ⟨bb, off + k * 3 + 1, none⟩ = some (.int .i64 x.f) := cell_keep hbr hw1
              have e2 : wr.cell? ⟨bb, off + k * 3 + 2, none⟩ = some (.int .i64 x.t) := cell_keep hbr hw2
              have f0 : wr.cell? ⟨w.heap.size, 1, none⟩ = some (.slice (some ⟨bb, off, none⟩) r.grs.length d) := k0.cell 1
              have f1 : wr.cell? ⟨w2.heap.size, 1, none⟩ = some (.slice A3 o.length c3) := hm.cell 1
              have past0 := past_cell f0
              have past1 := past_cell f1
              have past2 := past_cell e0
              have past3 := past_cell e1
              have past4 := past_cell e2
              refine region_pastT 8 [0, 1, 2, 3, 4, 5, 6] [7] (by kernel_rfl) (by kernel_rfl) (by kernel_rfl) ?_
              simp only [pick, List.map, List.getD_cons_zero, List.getD_cons_succ]
              repeat (go_big_quiet_step (fail))
              refine wpQuiet_nil ?_
              clear past0 past1 past2 past3 past4
              apply Exists.intro
              apply past_any (Lit1 wr.heap.size 37 #[.int .i64 x.m, .int .i64 x.f, .int .i64 x.t])
              · rfl
              · exact fun v x y h hle => h.keep hle
              · intro x _ Qx hQ'
                have hQ := Lib.hid hQ'; clear hQ'
                go_wp2_with fail
                exact hQ.out _ _ (below_alloc _ _) (Lit1.new _ _ _ x.ok.size)
              intro v7
              simp only [Act.put, List.setIfInBounds_toArray, List.set_cons_zero, List.set_cons_succ]
              refine past_end ?_
              intro w7 hb7 xx hxx hF
              dsimp only [allF] at hF
              try rw [hxx] at hF
              clear hxx xx
              obtain ⟨⟨g7, rfl, hg7, hk7⟩, -⟩ := hF
              have o7 := OwnF.below ho hb7
              have hv7 : ∀ b, (Value.slice A3 o.length c3).ownBlock = some b → w3.heap.size + 1 ≤ b := fun b hb => (o7.at_ hb).1
              have HV7 := Lib.hid hv7; clear hv7
              replace hm := blk_keep hm hb7
              replace cm0 := hm.cell
              replace fm0 := hm.frozen
              have hz7 := hb7.size
              have hc7 := hc.trans (Chg.of_below (S := fun _ => False) hb7) (fun i _ hs => hs.elim)
              simp only [List.drop]
              go_wp2_with (at_builtin; refine app_flatB (F := FGr) (v := .slice A3 o.length c3) rfl (.tmp 63) (.tmp 69) 28 rfl elem_gr x rfl o7 rfl hk7 rfl (by omega) (by omega) ?_; intro v8 w8 o8 ch8 at8; obtain ⟨A8, c8, rfl⟩ := o8.form; replace hm := blk_chg hm ch8 (fun hs => by have := HV7.out _ hs; omega); replace cm0 := hm.cell; replace fm0 := hm.frozen)
              have hc8 := (hc7.trans ch8 (fun i _ hs => .inr (HV7.out i hs))).setCell (p := ⟨w2.heap.size, 1, none⟩) (.inl (.inl rfl)) (.slice A8 (o ++ [x]).length c8)
              have o9 := o8.set_ne (p := ⟨w2.heap.size, 1, none⟩) (.slice A8 (o ++ [x]).length c8) (fun b hb => by have := (o8.at_ hb).1; dsimp only; omega)
              replace hm := hm.set_ 1 (.slice A8 (o ++ [x]).length c8)
              simp only [List.setIfInBounds_toArray, List.set_cons_zero, List.set_cons_succ] at hm
              have hst9 := letSt_no HST.out HG.out
              rw [← take_succ HX.out] at hst9
              have HST9 := Lib.hid hst9; clear hst9
              simp only [List.length_append, List.length_cons, List.length_nil, Nat.zero_add] at hc8 o9 hm
              go_roundw
              case rel => first | exact ⟨k + 1, false, _, _, by omega, by go_num, rfl, HST9.out, o9, hm, hc8⟩ | ((repeat apply Exists.intro); refine ⟨?_, rfl⟩; exact ⟨k + 1, false, _, _, by omega, by go_num, rfl, HST9.out, o9, hm, hc8⟩)
              case measure => simp [intOf]; omega
          · go_wp2_with fail
            have e0 : wr.cell? ⟨bb, off + k * 3, none⟩ = some (.int .i64 x.m) := cell_keep hbr hw0
            have e1 : wr.cell? ⟨bb, off + k * 3 + 1, none⟩ = some (.int .i64 x.f) := cell_keep hbr hw1
            have e2 : wr.cell? ⟨bb, off + k * 3 + 2, none⟩ = some (.int .i64 x.t) := cell_keep hbr hw2
            have f0 : wr.cell? ⟨w.heap.size, 1, none⟩ = some (.slice (some ⟨bb, off, none⟩) r.grs.length d) := k0.cell 1
            have f1 : wr.cell? ⟨w2.heap.size, 1, none⟩ = some (.slice A3 o.length c3) := hm.cell 1
            have past0 := past_cell f0
            have past1 := past_cell f1
            have past2 := past_cell e0
            have past3 := past_cell e1
            have past4 := past_cell e2
            refine region_pastT 8 [0, 1, 2, 3, 4, 5, 6] [7] (by kernel_rfl) (by kernel_rfl) (by kernel_rfl) ?_
            simp only [pick, List.map, List.getD_cons_zero, List.getD_cons_succ]
            repeat (go_big_quiet_step (fail))
            refine wpQuiet_nil ?_
            clear past0 past1 past2 past3 past4
            apply Exists.intro
            apply past_any (Lit1 wr.heap.size 37 #[.int .i64 x.m, .int .i64 x.f, .int .i64 x.t])
            · rfl
            · exact fun v x y h hle => h.keep hle
            · intro x _ Qx hQ'
              have hQ := Lib.hid hQ'; clear hQ'
              go_wp2_with fail
              exact hQ.out _ _ (below_alloc _ _) (Lit1.new _ _ _ x.ok.size)
            intro v7
            simp only [Act.put, List.setIfInBounds_toArray, List.set_cons_zero, List.set_cons_succ]
            refine past_end ?_
            intro w7 hb7 xx hxx hF
            dsimp only [allF] at hF
            try rw [hxx] at hF
            clear hxx xx
            obtain ⟨⟨g7, rfl, hg7, hk7⟩, -⟩ := hF
            have o7 := OwnF.below ho hb7
            have hv7 : ∀ b, (Value.slice A3 o.length c3).ownBlock = some b → w3.heap.size + 1 ≤ b := fun b hb => (o7.at_ hb).1
            have HV7 := Lib.hid hv7; clear hv7
            replace hm := blk_keep hm hb7
            replace cm0 := hm.cell
            replace fm0 := hm.frozen
            have hz7 := hb7.size
            have hc7 := hc.trans (Chg.of_below (S := fun _ => False) hb7) (fun i _ hs => hs.elim)
            simp only [List.drop]
            go_wp2_with (at_builtin; refine app_flatB (F := FGr) (v := .slice A3 o.length c3) rfl (.tmp 63) (.tmp 69) 28 rfl elem_gr x rfl o7 rfl hk7 rfl (by omega) (by omega) ?_; intro v8 w8 o8 ch8 at8; obtain ⟨A8, c8, rfl⟩ := o8.form; replace hm := blk_chg hm ch8 (fun hs => by have := HV7.out _ hs; omega); replace cm0 := hm.cell; replace fm0 := hm.frozen)
            have hc8 := (hc7.trans ch8 (fun i _ hs => .inr (HV7.out i hs))).setCell (p := ⟨w2.heap.size, 1, none⟩) (.inl (.inl rfl)) (.slice A8 (o ++ [x]).length c8)
            have o9 := o8.set_ne (p := ⟨w2.heap.size, 1, none⟩) (.slice A8 (o ++ [x]).length c8) (fun b hb => by have := (o8.at_ hb).1; dsimp only; omega)
            replace hm := hm.set_ 1 (.slice A8 (o ++ [x]).length c8)
            simp only [List.setIfInBounds_toArray, List.set_cons_zero, List.set_cons_succ] at hm
            have hst9 := letSt_yes (x := x) HST.out
            rw [← take_succ HX.out] at hst9
            have HST9 := Lib.hid hst9; clear hst9
            simp only [List.length_append, List.length_cons, List.length_nil, Nat.zero_add] at hc8 o9 hm
            go_roundw
            case rel => first | exact ⟨k + 1, true, _, _, by omega, by go_num, rfl, HST9.out, o9, hm, hc8⟩ | ((repeat apply Exists.intro); refine ⟨?_, rfl⟩; exact ⟨k + 1, true, _, _, by omega, by go_num, rfl, HST9.out, o9, hm, hc8⟩)
            case measure => simp [intOf]; omega
        · obtain rfl : k = r.grs.length := by omega
          have hend := HST.out
          rw [List.take_length] at hend
          have hlo : o.length ≤ 1048577 := by have := letSt_len hend; omega
          have HE := Lib.hid (letSt_end hend); clear hend
          have hkr := HK.out.chg hc (fun b hb hs => by have := H3.out b hb; omega)
          cases put
          · rcases HE.out with ⟨_, he⟩ | ⟨he, _⟩
            · have HE' := Lib.hid he; clear he
              have hv : ∀ b, (Value.slice A3 o.length c3).ownBlock = some b → w3.heap.size + 1 ≤ b := fun b hb => (ho.at_ hb).1
              have HV := Lib.hid hv; clear hv
              go_wp2_with (at_builtin; refine app_flat (F := FGr) (v := .slice A3 o.length c3) rfl (.tmp 75) (.tmp 77) 28 rfl elem_gr ⟨mm, 1, 0⟩ rfl ho rfl rfl (by omega) (by omega) ?_; intro v4 w4 o4 ch4 at4; obtain ⟨A4, c4, rfl⟩ := o4.form; replace hm := blk_chg hm ch4 (fun hs => by have := HV.out _ hs; omega); replace k1 := blk_chg k1 ch4 (fun hs => by have := HV.out _ hs; omega); replace cm0 := hm.cell; replace fm0 := hm.frozen; replace ck1 := k1.cell; replace fk1 := k1.frozen)
              have hb4 : Below w.heap.size w w4 := hbr.trans (ch4.below hbr.size fun i hi hs => by have := HV.out i hs; omega)
              have hk4 := hkr.chg ch4 (fun b hb hs => by have := H3.out b hb; have := HV.out b hs; omega)
              simp only [List.length_append, List.length_cons, List.length_nil, Nat.zero_add] at o4 at4
              have o4' : OwnF FGr 37 w4 (w3.heap.size + 1) (.slice A4 (o.length + 1) c4) (insG ⟨mm, letFrom true r, 0⟩ r.grs) := by
                have e : insG ⟨mm, letFrom true r, 0⟩ r.grs = o ++ [⟨mm, 1, 0⟩] := HE'.out
                rw [e]; exact o4
              have HO4 := Lib.hid o4'; clear o4' o4
              exact bodyPost_ret (v := .tuple #[.agg #[_, _], .bool true]) (by simp [results, Try.results43, go_sem, ck1]) rfl ⟨_, _, rfl, ⟨(((hk4.set_ne _ (fun b hb => by have := H3.out b hb; dsimp only; omega)).set_ne _ (fun b hb => by have := H3.out b hb; dsimp only; omega)).set_ne _ (fun b hb => by have := H3.out b hb; dsimp only; omega)).base (by omega), (((HO4.out.set_ _ (by dsimp only; omega)).set_ _ (by dsimp only; omega)).set_ _ (by dsimp only; omega)).base (by omega)⟩, ((hb4.setCell (by dsimp only; omega) _).setCell (by dsimp only; omega) _).setCell (by dsimp only; omega) _⟩
            · cases he
          · rcases HE.out with ⟨he, _⟩ | ⟨_, he⟩
            · cases he
            · have o4' : OwnF FGr 37 wr (w3.heap.size + 1) (.slice A3 o.length c3) (insG ⟨mm, letFrom true r, 0⟩ r.grs) := by
                have e : insG ⟨mm, letFrom true r, 0⟩ r.grs = o := he
                rw [e]; exact ho
              have HO4 := Lib.hid o4'; clear o4' ho he
              go_wp2_with fail
              exact bodyPost_ret (v := .tuple #[.agg #[_, _], .bool true]) (by simp [results, Try.results43, go_sem, ck1]) rfl ⟨_, _, rfl, ⟨((hkr.set_ne _ (fun b hb => by have := H3.out b hb; dsimp only; omega)).set_ne _ (fun b hb => by have := H3.out b hb; dsimp only; omega)).base (by omega), ((HO4.out.set_ _ (by dsimp only; omega)).set_ _ (by dsimp only; omega)).base (by omega)⟩, (hbr.setCell (by dsimp only; omega) _).setCell (by dsimp only; omega) _⟩
  · have H1 := Lib.hid h1; clear h1
    obtain ⟨k, hix⟩ : ∃ k : Nat, idxOf (fun g : Gr => decide (g.m = mm)) r.grs = (k : Int) := by
      rcases idx_cases (fun g : Gr => decide (g.m = mm)) r.grs with ⟨_, hn⟩ | ⟨k, _, _, _, hix⟩
      · obtain ⟨g, hg, hm⟩ := h2
        have := hn g hg
        simp [hm] at this
      · exact ⟨k, hix⟩
    clear h2
    go_enter Try.func43, Try.ntmps43
    go_wp2_with fail
    have hbw0 : Below w.heap.size w ((w.alloc (.cells #[.slice A r.keys.length c, .slice B r.grs.length d] 30)).alloc (.cells #[.slice none 0 0, .slice none 0 0] 30)) := below_alloc' (below_alloc _ _) _
    have k0 : Blk ((w.alloc (.cells #[.slice A r.keys.length c, .slice B r.grs.length d] 30)).alloc (.cells #[.slice none 0 0, .slice none 0 0] 30)) (w.heap.size) 30 #[.slice A r.keys.length c, .slice B r.grs.length d] := by
      have hk := blk_alloc (Blk.new w 30 #[.slice A r.keys.length c, .slice B r.grs.length d]) (.cells #[.slice none 0 0, .slice none 0 0] 30)
      exact hk
    have k1 : Blk ((w.alloc (.cells #[.slice A r.keys.length c, .slice B r.grs.length d] 30)).alloc (.cells #[.slice none 0 0, .slice none 0 0] 30)) (w.heap.size + 1) 30 #[.slice none 0 0, .slice none 0 0] := by
      have hk := Blk.new (w.alloc (.cells #[.slice A r.keys.length c, .slice B r.grs.length d] 30)) 30 #[.slice none 0 0, .slice none 0 0]
      simp only [World.size_alloc] at hk
      exact hk
    have hsw0 : w.heap.size + 2 ≤ ((w.alloc (.cells #[.slice A r.keys.length c, .slice B r.grs.length d] 30)).alloc (.cells #[.slice none 0 0, .slice none 0 0] 30)).heap.size := by simp only [World.size_alloc]; omega
    generalize ((w.alloc (.cells #[.slice A r.keys.length c, .slice B r.grs.length d] 30)).alloc (.cells #[.slice none 0 0, .slice none 0 0] 30)) = w0 at *
    have ck0 := k0.cell
    have fk0 := k0.frozen
    have ck1 := k1.cell
    have fk1 := k1.frozen
    refine (specRingOk_any r _ _ _ _ _ (Nat.le_trans hhi hbw0.size) (sl_keep RInt.loc ha hbw0 hhi) (sl_keep RGr.loc h hbw0 hhi) true (by simp only [true_iff]; exact H1.out.1)).mono ?_
    rintro e w1 ⟨rfl, b1⟩
    replace k0 := blk_keep k0 b1
    replace ck0 := k0.cell
    replace fk0 := k0.frozen
    replace k1 := blk_keep k1 b1
    replace ck1 := k1.cell
    replace fk1 := k1.frozen
    have z0 := hsw0
    have z1 := b1.size
    replace hbw0 := below_below hbw0 b1
    go_wp2_with fail
    refine (l6In_yes _ _ _ H1.out.2.1 H1.out.2.2 _).mono ?_
    rintro e w2 ⟨rfl, rfl⟩
    go_wp2_with fail
    refine (l33Copy_any r _ _ _ _ _ (Nat.le_trans hhi hbw0.size) (sl_keep RInt.loc ha hbw0 hhi) (sl_keep RGr.loc h hbw0 hhi) hl1 hl2).mono ?_
    rintro e w2 ⟨v1, v2, rfl, o1, b2⟩
    replace k0 := blk_keep k0 b2
    replace ck0 := k0.cell
    replace fk0 := k0.frozen
    replace k1 := blk_keep k1 b2
    replace ck1 := k1.cell
    replace fk1 := k1.frozen
    replace hbw0 := below_below hbw0 b2
    have z2 := b2.size
    obtain ⟨A1, c1, rfl⟩ := o1.keys.form
    obtain ⟨A2, c2, rfl⟩ := o1.grs.form
    have ax := below_alloc w2 (.cells #[.slice A1 r.keys.length c1, .slice A2 r.grs.length c2] 30)
    have ka0 := (blk_keep k0 ax).cell
    go_wp2_with fail
    have hbwx : Below w2.heap.size w2 (w2.alloc (.cells #[.slice A1 r.keys.length c1, .slice A2 r.grs.length c2] 30)) := below_alloc _ _
    have m0 : Blk (w2.alloc (.cells #[.slice A1 r.keys.length c1, .slice A2 r.grs.length c2] 30)) (w2.heap.size) 30 #[.slice A1 r.keys.length c1, .slice A2 r.grs.length c2] := by
      have hk := Blk.new w2 30 #[.slice A1 r.keys.length c1, .slice A2 r.grs.length c2]
      exact hk
    have hswx : w2.heap.size + 1 ≤ (w2.alloc (.cells #[.slice A1 r.keys.length c1, .slice A2 r.grs.length c2] 30)).heap.size := by simp only [World.size_alloc]; omega
    generalize (w2.alloc (.cells #[.slice A1 r.keys.length c1, .slice A2 r.grs.length c2] 30)) = wx at *
    have cm0 := m0.cell
    have fm0 := m0.frozen
    replace k0 := blk_keep k0 hbwx
    replace ck0 := k0.cell
    replace fk0 := k0.frozen
    replace k1 := blk_keep k1 hbwx
    replace ck1 := k1.cell
    replace fk1 := k1.frozen
    replace hbw0 := below_below hbw0 hbwx
    have om := o1.below hbwx
    refine (l33At_any r mm _ _ _ lo hi (Nat.le_trans hhi hbw0.size) (sl_keep RGr.loc h hbw0 hhi)).mono ?_
    rintro e w3 ⟨rfl, b3⟩
    clear ka0 ax
    replace k0 := blk_keep k0 b3
    replace ck0 := k0.cell
    replace fk0 := k0.frozen
    replace k1 := blk_keep k1 b3
    replace ck1 := k1.cell
    replace fk1 := k1.frozen
    replace m0 := blk_keep m0 b3
    replace cm0 := m0.cell
    replace fm0 := m0.frozen
    replace hbw0 := below_below hbw0 b3
    replace om := om.below b3
    have z3 := b3.size
    go_wp2_with fail
    exact bodyPost_ret (v := .tuple #[.agg #[_, _], .bool false]) (by simp [results, Try.results43, go_sem, ck1]) rfl ⟨_, _, rfl, ((om.set_ _ (by dsimp only; omega)).set_ _ (by dsimp only; omega)).base (by omega), (hbw0.setCell (by simp) _).setCell (by simp) _⟩
  · by_cases p : ringP r
    · have H1 := Lib.hid h1; clear h1
      have P := Lib.hid p; clear p
      have hk : ¬ (1 ≤ mm ∧ mm ≤ 4) := fun hk => H1.out ⟨P.out, hk⟩
      have HK := Lib.hid hk; clear hk
      go_enter Try.func43, Try.ntmps43
      go_wp2_with fail
      have hbw0 : Below w.heap.size w ((w.alloc (.cells #[.slice A r.keys.length c, .slice B r.grs.length d] 30)).alloc (.cells #[.slice none 0 0, .slice none 0 0] 30)) := below_alloc' (below_alloc _ _) _
      have k0 : Blk ((w.alloc (.cells #[.slice A r.keys.length c, .slice B r.grs.length d] 30)).alloc (.cells #[.slice none 0 0, .slice none 0 0] 30)) (w.heap.size) 30 #[.slice A r.keys.length c, .slice B r.grs.length d] := by
        have hk := blk_alloc (Blk.new w 30 #[.slice A r.keys.length c, .slice B r.grs.length d]) (.cells #[.slice none 0 0, .slice none 0 0] 30)
        exact hk
      have k1 : Blk ((w.alloc (.cells #[.slice A r.keys.length c, .slice B r.grs.length d] 30)).alloc (.cells #[.slice none 0 0, .slice none 0 0] 30)) (w.heap.size + 1) 30 #[.slice none 0 0, .slice none 0 0] := by
        have hk := Blk.new (w.alloc (.cells #[.slice A r.keys.length c, .slice B r.grs.length d] 30)) 30 #[.slice none 0 0, .slice none 0 0]
        simp only [World.size_alloc] at hk
        exact hk
      have hsw0 : w.heap.size + 2 ≤ ((w.alloc (.cells #[.slice A r.keys.length c, .slice B r.grs.length d] 30)).alloc (.cells #[.slice none 0 0, .slice none 0 0] 30)).heap.size := by simp only [World.size_alloc]; omega
      generalize ((w.alloc (.cells #[.slice A r.keys.length c, .slice B r.grs.length d] 30)).alloc (.cells #[.slice none 0 0, .slice none 0 0] 30)) = w0 at *
      have ck0 := k0.cell
      have fk0 := k0.frozen
      have ck1 := k1.cell
      have fk1 := k1.frozen
      refine (specRingOk_any r _ _ _ _ _ (Nat.le_trans hhi hbw0.size) (sl_keep RInt.loc ha hbw0 hhi) (sl_keep RGr.loc h hbw0 hhi) true (by simp only [true_iff]; exact P.out)).mono ?_
      rintro e w1 ⟨rfl, b1⟩
      replace k0 := blk_keep k0 b1
      replace ck0 := k0.cell
      replace fk0 := k0.frozen
      replace k1 := blk_keep k1 b1
      replace ck1 := k1.cell
      replace fk1 := k1.frozen
      have z0 := hsw0
      have z1 := b1.size
      replace hbw0 := below_below hbw0 b1
      go_wp2_with fail
      refine (l6In_no _ _ _ HK.out _).mono ?_
      rintro e w2 ⟨rfl, rfl⟩
      go_wp2_with fail
      exact bodyPost_ret (v := .tuple #[.agg #[.slice none 0 0, .slice none 0 0], .bool false]) (by simp [results, Try.results43, go_sem, ck1]) rfl ⟨_, _, rfl, OwnRg.nil _ _, (hbw0.setCell (by simp) _).setCell (by simp) _⟩
    · have P := Lib.hid p; clear p h1
      go_enter Try.func43, Try.ntmps43
      go_wp2_with fail
      have hbw0 : Below w.heap.size w ((w.alloc (.cells #[.slice A r.keys.length c, .slice B r.grs.length d] 30)).alloc (.cells #[.slice none 0 0, .slice none 0 0] 30)) := below_alloc' (below_alloc _ _) _
      have k0 : Blk ((w.alloc (.cells #[.slice A r.keys.length c, .slice B r.grs.length d] 30)).alloc (.cells #[.slice none 0 0, .slice none 0 0] 30)) (w.heap.size) 30 #[.slice A r.keys.length c, .slice B r.grs.length d] := by
        have hk := blk_alloc (Blk.new w 30 #[.slice A r.keys.length c, .slice B r.grs.length d]) (.cells #[.slice none 0 0, .slice none 0 0] 30)
        exact hk
      have k1 : Blk ((w.alloc (.cells #[.slice A r.keys.length c, .slice B r.grs.length d] 30)).alloc (.cells #[.slice none 0 0, .slice none 0 0] 30)) (w.heap.size + 1) 30 #[.slice none 0 0, .slice none 0 0] := by
        have hk := Blk.new (w.alloc (.cells #[.slice A r.keys.length c, .slice B r.grs.length d] 30)) 30 #[.slice none 0 0, .slice none 0 0]
        simp only [World.size_alloc] at hk
        exact hk
      have hsw0 : w.heap.size + 2 ≤ ((w.alloc (.cells #[.slice A r.keys.length c, .slice B r.grs.length d] 30)).alloc (.cells #[.slice none 0 0, .slice none 0 0] 30)).heap.size := by simp only [World.size_alloc]; omega
      generalize ((w.alloc (.cells #[.slice A r.keys.length c, .slice B r.grs.length d] 30)).alloc (.cells #[.slice none 0 0, .slice none 0 0] 30)) = w0 at *
      have ck0 := k0.cell
      have fk0 := k0.frozen
      have ck1 := k1.cell
      have fk1 := k1.frozen
      refine (specRingOk_any r _ _ _ _ _ (Nat.le_trans hhi hbw0.size) (sl_keep RInt.loc ha hbw0 hhi) (sl_keep RGr.loc h hbw0 hhi) false (by simp only [Bool.false_eq_true, false_iff]; exact P.out)).mono ?_
      rintro e w1 ⟨rfl, b1⟩
      replace k0 := blk_keep k0 b1
      replace ck0 := k0.cell
      replace fk0 := k0.frozen
      replace k1 := blk_keep k1 b1
      replace ck1 := k1.cell
      replace fk1 := k1.frozen
      have z0 := hsw0
      have z1 := b1.size
      replace hbw0 := below_below hbw0 b1
      go_wp2_with fail
      exact bodyPost_ret (v := .tuple #[.agg #[.slice none 0 0, .slice none 0 0], .bool false]) (by simp [results, Try.results43, go_sem, ck1]) rfl ⟨_, _, rfl, OwnRg.nil _ _, (hbw0.setCell (by simp) _).setCell (by simp) _⟩
end Go.Proofs.Ytdbeclnoaeiaeaa
