


/- The reference's RingShut. -/
import Derived.Test.YtdbeclnoaeiaeaaRgT
namespace Go.Proofs.Ytdbeclnoaeiaeaa
open Go.RowKit

/-- What RingShut gives. -/
def RShut (r : Rg) (m key : Int) (r' : Rg) (ok : Bool) : Prop :=
  (ok = true ∧ (ringP r ∧ 1 ≤ key ∧ key ≤ 99) ∧ (key ∉ r.keys ∧ r.keys.length < 9) ∧ ∃ k g, r.grs[k]? = some g ∧ g.m = m ∧ g.t = 0 ∧ r' = ⟨r.keys ++ [key], r.grs.set k ⟨g.m, g.f, r.keys.length⟩⟩) ∨
  (ok = false ∧ (ringP r ∧ 1 ≤ key ∧ key ≤ 99) ∧ ¬ ((key ∉ r.keys ∧ r.keys.length < 9) ∧ ∃ g ∈ r.grs, g.m = m ∧ g.t = 0) ∧ r = r') ∨
  (ok = false ∧ ¬ (ringP r ∧ 1 ≤ key ∧ key ≤ 99) ∧ r' = ⟨[], []⟩)
theorem RShut_total (r : Rg) (m key : Int) : ∃ r' ok, RShut r m key r' ok := by
  by_cases h1 : ringP r ∧ 1 ≤ key ∧ key ≤ 99
  · by_cases h2 : (key ∉ r.keys ∧ r.keys.length < 9) ∧ ∃ g ∈ r.grs, g.m = m ∧ g.t = 0
    · obtain ⟨h3, g, hg, h4, h5⟩ := h2
      obtain ⟨k, hk⟩ := List.mem_iff_getElem?.1 hg
      exact ⟨_, true, .inl ⟨rfl, h1, h3, k, g, hk, h4, h5, rfl⟩⟩
    · exact ⟨_, false, .inr (.inl ⟨rfl, h1, h2, rfl⟩)⟩
  · exact ⟨_, false, .inr (.inr ⟨rfl, h1, rfl⟩)⟩
theorem idx_at {gs : List Gr} {n k : Nat} {g : Gr} {m : Int} (hp : grsP n gs) (hk : gs[k]? = some g) (hm : g.m = m) : idxOf (fun g => decide (g.m = m)) gs = (k : Int) :=
  idx_hit hk (by simp [hm]) fun y hy => by
    obtain ⟨j, hj⟩ := List.mem_iff_getElem?.1 hy
    have hlt := lt_of_some hj
    rw [List.length_take] at hlt
    rw [List.getElem?_take_of_lt (by omega)] at hj
    by_cases he : y.m = m
    · obtain ⟨h1, _⟩ := grs_one hp hj hk (by rw [he, hm])
      omega
    · simpa using he

set_option maxHeartbeats 2000000 in
theorem specRingShut_any (r : Rg) (mm key : Int) (va vb : Value) (w : World) (lo hi : Nat) (hhi : hi ≤ w.heap.size) (ha : RSl RInt 1 w lo hi r.keys [va]) (h : RSl RGr 3 w lo hi r.grs [vb]) (hl1 : r.keys.length ≤ 1048576) (hl2 : r.grs.length ≤ 1048576) (r' : Rg) (ok : Bool) (hr : RShut r mm key r' ok) :
    Calls Try.prog 40 #[.agg #[va, vb], .int .i64 mm, .int .i64 key] w (NewRg2 w r' ok) := by
  obtain ⟨A, c, rfl⟩ := ha.form
  obtain ⟨B, d, rfl⟩ := h.form
  obtain ⟨r1, ok1, ht⟩ := RTurn_total r key
  have HT := Lib.hid ht
  rcases hr with ⟨rfl, h1, h2, k, g, hk, hgm, hgt, rfl⟩ | ⟨rfl, h1, h2, rfl⟩ | ⟨rfl, h1, rfl⟩
  · obtain ⟨hok, hr1⟩ : ok1 = true ∧ r1 = ⟨r.keys ++ [key], r.grs⟩ := by
      rcases ht with ⟨a, _, _, b⟩ | ⟨_, _, b, _⟩ | ⟨_, b, _⟩
      · exact ⟨a, b⟩
      · exact absurd h2 b
      · exact absurd h1 b
    have HR := Lib.hid hr1; clear hr1
    have hix := idx_at h1.1.2.1 hk hgm
    have H1 := Lib.hid h1
    have HK := Lib.hid hk
    have hklt := lt_of_some hk
    obtain ⟨bb, off, rfl, hlo1, hlo2, h64, hcell0, hcell1, hcell2⟩ := h.grs_at hk
    have t1 : decide (0 < g.t) = false := by rw [hgt]; rfl
    have HG := Lib.hid hgt
    have HM := Lib.hid hgm
    clear ht h1 hk hgt hgm hcell0 hcell1
    go_enter Try.func40, Try.ntmps40
    go_wp2_with fail
    have hbw0 : Below w.heap.size w ((w.alloc (.cells #[.slice A r.keys.length c, .slice (some ⟨bb, off, none⟩) r.grs.length d] 30)).alloc (.cells #[.slice none 0 0, .slice none 0 0] 30)) := below_alloc' (below_alloc _ _) _
    have k0 : Blk ((w.alloc (.cells #[.slice A r.keys.length c, .slice (some ⟨bb, off, none⟩) r.grs.length d] 30)).alloc (.cells #[.slice none 0 0, .slice none 0 0] 30)) (w.heap.size) 30 #[.slice A r.keys.length c, .slice (some ⟨bb, off, none⟩) r.grs.length d] := by
      have hk := blk_alloc (Blk.new w 30 #[.slice A r.keys.length c, .slice (some ⟨bb, off, none⟩) r.grs.length d]) (.cells #[.slice none 0 0, .slice none 0 0] 30)
      exact hk
    have k1 : Blk ((w.alloc (.cells #[.slice A r.keys.length c, .slice (some ⟨bb, off, none⟩) r.grs.length d] 30)).alloc (.cells #[.slice none 0 0, .slice none 0 0] 30)) (w.heap.size + 1) 30 #[.slice none 0 0, .slice none 0 0] := by
      have hk := Blk.new (w.alloc (.cells #[.slice A r.keys.length c, .slice (some ⟨bb, off, none⟩) r.grs.length d] 30)) 30 #[.slice none 0 0, .slice none 0 0]
      simp only [World.size_alloc] at hk
      exact hk
    have hsw0 : w.heap.size + 2 ≤ ((w.alloc (.cells #[.slice A r.keys.length c, .slice (some ⟨bb, off, none⟩) r.grs.length d] 30)).alloc (.cells #[.slice none 0 0, .slice none 0 0] 30)).heap.size := by simp only [World.size_alloc]; omega
    generalize ((w.alloc (.cells #[.slice A r.keys.length c, .slice (some ⟨bb, off, none⟩) r.grs.length d] 30)).alloc (.cells #[.slice none 0 0, .slice none 0 0] 30)) = w0 at *
    have ck0 := k0.cell
    have fk0 := k0.frozen
    have ck1 := k1.cell
    have fk1 := k1.frozen
    refine (specRingTurn_any r key _ _ _ _ _ (Nat.le_trans hhi hbw0.size) (sl_keep RInt.loc ha hbw0 hhi) (sl_keep RGr.loc h hbw0 hhi) hl1 hl2 r1 ok1 HT.out).mono ?_
    rintro e w1 ⟨v1, v2, rfl, o1, b1⟩
    replace k0 := blk_keep k0 b1
    replace ck0 := k0.cell
    replace fk0 := k0.frozen
    replace k1 := blk_keep k1 b1
    replace ck1 := k1.cell
    replace fk1 := k1.frozen
    replace hbw0 := below_below hbw0 b1
    obtain ⟨A1, c1, rfl⟩ := o1.keys.form
    obtain ⟨A2, c2, rfl⟩ := o1.grs.form
    have z1 := b1.size
    have ax := below_alloc w1 (.cells #[.slice A1 r1.keys.length c1, .slice A2 r1.grs.length c2] 30)
    have ka0 := (blk_keep k0 ax).cell
    go_wp2_with fail
    have hbwx : Below w1.heap.size w1 (w1.alloc (.cells #[.slice A1 r1.keys.length c1, .slice A2 r1.grs.length c2] 30)) := below_alloc _ _
    have m0 : Blk (w1.alloc (.cells #[.slice A1 r1.keys.length c1, .slice A2 r1.grs.length c2] 30)) (w1.heap.size) 30 #[.slice A1 r1.keys.length c1, .slice A2 r1.grs.length c2] := by
      have hk := Blk.new w1 30 #[.slice A1 r1.keys.length c1, .slice A2 r1.grs.length c2]
      exact hk
    have hswx : w1.heap.size + 1 ≤ (w1.alloc (.cells #[.slice A1 r1.keys.length c1, .slice A2 r1.grs.length c2] 30)).heap.size := by simp only [World.size_alloc]; omega
    generalize (w1.alloc (.cells #[.slice A1 r1.keys.length c1, .slice A2 r1.grs.length c2] 30)) = wx at *
    have cm0 := m0.cell
    have fm0 := m0.frozen
    replace k0 := blk_keep k0 hbwx
    replace ck0 := k0.cell
    replace fk0 := k0.frozen
    replace k1 := blk_keep k1 hbwx
    replace ck1 := k1.cell
    replace fk1 := k1.frozen
    replace hbw0 := below_below hbw0 hbwx
    have om := o1.below hbwx
    refine (l33At_any r mm _ _ _ lo hi (Nat.le_trans hhi hbw0.size) (sl_keep RGr.loc h hbw0 hhi)).mono ?_
    rintro e w2 ⟨rfl, b2⟩
    clear ka0 ax
    replace k0 := blk_keep k0 b2
    replace ck0 := k0.cell
    replace fk0 := k0.frozen
    replace k1 := blk_keep k1 b2
    replace ck1 := k1.cell
    replace fk1 := k1.frozen
    replace m0 := blk_keep m0 b2
    replace cm0 := m0.cell
    replace fm0 := m0.frozen
    replace hbw0 := below_below hbw0 b2
    replace om := om.below b2
    have z2 := b2.size
    go_wp2_with fail
    refine (specRingOk_any r _ _ _ _ _ (Nat.le_trans hhi hbw0.size) (sl_keep RInt.loc ha hbw0 hhi) (sl_keep RGr.loc h hbw0 hhi) true (by simp only [true_iff]; exact H1.out.1)).mono ?_
    rintro e w3 ⟨rfl, b3⟩
    replace k0 := blk_keep k0 b3
    replace ck0 := k0.cell
    replace fk0 := k0.frozen
    replace k1 := blk_keep k1 b3
    replace ck1 := k1.cell
    replace fk1 := k1.frozen
    replace m0 := blk_keep m0 b3
    replace cm0 := m0.cell
    replace fm0 := m0.frozen
    replace hbw0 := below_below hbw0 b3
    replace om := om.below b3
    have z3 := b3.size
    go_wp2_with fail
    refine (l2Key_any key _ true (by simp only [true_iff]; exact H1.out.2)).mono ?_
    rintro e w4 ⟨rfl, rfl⟩
    clear hix
    have hc3 : w3.cell? ⟨bb, off + k * 3 + 2, none⟩ = some (.int .i64 g.t) := cell_keep hbw0 hcell2
    obtain ⟨gg, cc, hA2⟩ := om.grs.some_ (by rw [HR.out]; show 0 < r.grs.length; omega)
    simp only [Value.slice.injEq] at hA2
    obtain ⟨rfl, _, rfl⟩ := hA2
    have e1 : r1.keys = r.keys ++ [key] := by rw [HR.out]
    have e2 : r1.grs = r.grs := by rw [HR.out]
    have hk1 : k < r1.grs.length := by rw [e2]; exact hklt
    have hx1 : r1.grs[k]? = some g := by rw [e2]; exact HK.out
    have hcg : w3.cell? ⟨gg, k * 3 + 2, none⟩ = some (.int .i64 g.t) := om.grs.cell (j := 2) hx1 rfl
    have hfg : w3.frozen? ⟨gg, k * 3 + 2, none⟩ = false := om.grs.frozen rfl _
    have hat := o1.grs.at_ (g := gg) rfl
    have hap := own_apart om.keys om.grs (by decide)
    have hz1 := z1
    have p1 := om.grs.put (j := 2) (y := ⟨g.m, g.f, r.keys.length⟩) (u := .int .i64 r.keys.length) hx1 (by decide) rfl
    have p2 := om.keys.set_ne (p := ⟨gg, k * 3 + 2, none⟩) (.int .i64 r.keys.length) (fun b hb he => hap b hb (by rw [he]; rfl))
    have P1 : ∀ xs, r1.grs = xs → OwnF FGr 37 (w3.setCell ⟨gg, k * 3 + 2, none⟩ (.int .i64 r.keys.length)) w0.heap.size (.slice (some ⟨gg, 0, none⟩) r1.grs.length c2) (xs.set k ⟨g.m, g.f, r.keys.length⟩) := fun xs hxs => by subst hxs; exact p1
    have P2 : ∀ xs, r1.keys = xs → OwnF FInt 3 (w3.setCell ⟨gg, k * 3 + 2, none⟩ (.int .i64 r.keys.length)) w0.heap.size (.slice A1 r1.keys.length c1) xs := fun xs hxs => by subst hxs; exact p2
    have HP1 := Lib.hid (P1 _ e2)
    have HP2 := Lib.hid (P2 _ e1)
    clear P1 P2
    have hn1 : (w.heap.size + 1) ≠ gg := by omega
    have hn2 : w1.heap.size ≠ gg := by omega
    have km0 := (blk_ne m0 (p := ⟨gg, k * 3 + 2, none⟩) (.int .i64 r.keys.length) hn2).cell
    have kk1 := blk_ne k1 (p := ⟨gg, k * 3 + 2, none⟩) (.int .i64 r.keys.length) hn1
    have kc1 := kk1.cell
    have kf1 := kk1.frozen
    clear e1 e2 hx1 p1 p2 hap om
    go_wp2_with fail
    exact bodyPost_ret (v := .tuple #[.agg #[_, _], .bool true]) (by simp [results, Try.results40, go_sem, kc1]) rfl ⟨_, _, rfl, ⟨((HP2.out.set_ _ (by dsimp only; omega)).set_ _ (by dsimp only; omega)).base (by omega), ((HP1.out.set_ _ (by dsimp only; omega)).set_ _ (by dsimp only; omega)).base (by omega)⟩, ((hbw0.setCell (by dsimp only; omega) _).setCell (by dsimp only; omega) _).setCell (by dsimp only; omega) _⟩
  · have H1 := Lib.hid h1
    rcases ht with ⟨hok, -, h3, -⟩ | ⟨hok, -, h3, -⟩ | ⟨-, b, -⟩
    · have hno : ¬ ∃ g ∈ r.grs, g.m = mm ∧ g.t = 0 := fun hx => h2 ⟨h3, hx⟩
      rcases idx_cases (fun g : Gr => decide (g.m = mm)) r.grs with ⟨hix, hn⟩ | ⟨k, g, hk, hp, hix⟩
      · clear h1 h2 h3 hno hn
        go_enter Try.func40, Try.ntmps40
        go_wp2_with fail
        have hbw0 : Below w.heap.size w ((w.alloc (.cells #[.slice A r.keys.length c, .slice (B) r.grs.length d] 30)).alloc (.cells #[.slice none 0 0, .slice none 0 0] 30)) := below_alloc' (below_alloc _ _) _
        have k0 : Blk ((w.alloc (.cells #[.slice A r.keys.length c, .slice (B) r.grs.length d] 30)).alloc (.cells #[.slice none 0 0, .slice none 0 0] 30)) (w.heap.size) 30 #[.slice A r.keys.length c, .slice (B) r.grs.length d] := by
          have hk := blk_alloc (Blk.new w 30 #[.slice A r.keys.length c, .slice (B) r.grs.length d]) (.cells #[.slice none 0 0, .slice none 0 0] 30)
          exact hk
        have k1 : Blk ((w.alloc (.cells #[.slice A r.keys.length c, .slice (B) r.grs.length d] 30)).alloc (.cells #[.slice none 0 0, .slice none 0 0] 30)) (w.heap.size + 1) 30 #[.slice none 0 0, .slice none 0 0] := by
          have hk := Blk.new (w.alloc (.cells #[.slice A r.keys.length c, .slice (B) r.grs.length d] 30)) 30 #[.slice none 0 0, .slice none 0 0]
          simp only [World.size_alloc] at hk
          exact hk
        have hsw0 : w.heap.size + 2 ≤ ((w.alloc (.cells #[.slice A r.keys.length c, .slice (B) r.grs.length d] 30)).alloc (.cells #[.slice none 0 0, .slice none 0 0] 30)).heap.size := by simp only [World.size_alloc]; omega
        generalize ((w.alloc (.cells #[.slice A r.keys.length c, .slice (B) r.grs.length d] 30)).alloc (.cells #[.slice none 0 0, .slice none 0 0] 30)) = w0 at *
        have ck0 := k0.cell
        have fk0 := k0.frozen
        have ck1 := k1.cell
        have fk1 := k1.frozen
        refine (specRingTurn_any r key _ _ _ _ _ (Nat.le_trans hhi hbw0.size) (sl_keep RInt.loc ha hbw0 hhi) (sl_keep RGr.loc h hbw0 hhi) hl1 hl2 r1 ok1 HT.out).mono ?_
        rintro e w1 ⟨v1, v2, rfl, o1, b1⟩
        replace k0 := blk_keep k0 b1
        replace ck0 := k0.cell
        replace fk0 := k0.frozen
        replace k1 := blk_keep k1 b1
        replace ck1 := k1.cell
        replace fk1 := k1.frozen
        replace hbw0 := below_below hbw0 b1
        obtain ⟨A1, c1, rfl⟩ := o1.keys.form
        obtain ⟨A2, c2, rfl⟩ := o1.grs.form
        have z1 := b1.size
        have ax := below_alloc w1 (.cells #[.slice A1 r1.keys.length c1, .slice A2 r1.grs.length c2] 30)
        have ka0 := (blk_keep k0 ax).cell
        go_wp2_with fail
        have hbwx : Below w1.heap.size w1 (w1.alloc (.cells #[.slice A1 r1.keys.length c1, .slice A2 r1.grs.length c2] 30)) := below_alloc _ _
        have m0 : Blk (w1.alloc (.cells #[.slice A1 r1.keys.length c1, .slice A2 r1.grs.length c2] 30)) (w1.heap.size) 30 #[.slice A1 r1.keys.length c1, .slice A2 r1.grs.length c2] := by
          have hk := Blk.new w1 30 #[.slice A1 r1.keys.length c1, .slice A2 r1.grs.length c2]
          exact hk
        have hswx : w1.heap.size + 1 ≤ (w1.alloc (.cells #[.slice A1 r1.keys.length c1, .slice A2 r1.grs.length c2] 30)).heap.size := by simp only [World.size_alloc]; omega
        generalize (w1.alloc (.cells #[.slice A1 r1.keys.length c1, .slice A2 r1.grs.length c2] 30)) = wx at *
        have cm0 := m0.cell
        have fm0 := m0.frozen
        replace k0 := blk_keep k0 hbwx
        replace ck0 := k0.cell
        replace fk0 := k0.frozen
        replace k1 := blk_keep k1 hbwx
        replace ck1 := k1.cell
        replace fk1 := k1.frozen
        replace hbw0 := below_below hbw0 hbwx
        have om := o1.below hbwx
        refine (l33At_any r mm _ _ _ lo hi (Nat.le_trans hhi hbw0.size) (sl_keep RGr.loc h hbw0 hhi)).mono ?_
        rintro e w2 ⟨rfl, b2⟩
        clear ka0 ax
        replace k0 := blk_keep k0 b2
        replace ck0 := k0.cell
        replace fk0 := k0.frozen
        replace k1 := blk_keep k1 b2
        replace ck1 := k1.cell
        replace fk1 := k1.frozen
        replace m0 := blk_keep m0 b2
        replace cm0 := m0.cell
        replace fm0 := m0.frozen
        replace hbw0 := below_below hbw0 b2
        replace om := om.below b2
        have z2 := b2.size
        go_wp2_with fail
        refine (specRingOk_any r _ _ _ _ _ (Nat.le_trans hhi hbw0.size) (sl_keep RInt.loc ha hbw0 hhi) (sl_keep RGr.loc h hbw0 hhi) true (by simp only [true_iff]; exact H1.out.1)).mono ?_
        rintro e w3 ⟨rfl, b3⟩
        replace k0 := blk_keep k0 b3
        replace ck0 := k0.cell
        replace fk0 := k0.frozen
        replace k1 := blk_keep k1 b3
        replace ck1 := k1.cell
        replace fk1 := k1.frozen
        replace m0 := blk_keep m0 b3
        replace cm0 := m0.cell
        replace fm0 := m0.frozen
        replace hbw0 := below_below hbw0 b3
        replace om := om.below b3
        have z3 := b3.size
        go_wp2_with fail
        refine (l2Key_any key _ true (by simp only [true_iff]; exact H1.out.2)).mono ?_
        rintro e w4 ⟨rfl, rfl⟩
        clear hix
        go_wp2_with fail
        refine (l33Copy_any r _ _ _ _ _ (Nat.le_trans hhi hbw0.size) (sl_keep RInt.loc ha hbw0 hhi) (sl_keep RGr.loc h hbw0 hhi) hl1 hl2).mono ?_
        rintro e w5 ⟨v5, v6, rfl, o5, b5⟩
        replace k1 := blk_keep k1 b5
        replace ck1 := k1.cell
        replace fk1 := k1.frozen
        replace hbw0 := below_below hbw0 b5
        have z4 := m0.lt
        obtain ⟨A5, c5, rfl⟩ := o5.keys.form
        obtain ⟨A6, c6, rfl⟩ := o5.grs.form
        go_wp2_with fail
        exact bodyPost_ret (v := .tuple #[.agg #[_, _], .bool false]) (by simp [results, Try.results40, go_sem, ck1]) rfl ⟨_, _, rfl, ((o5.set_ _ (by dsimp only; omega)).set_ _ (by dsimp only; omega)).base (by omega), (hbw0.setCell (by simp) _).setCell (by simp) _⟩
      · have hgm : g.m = mm := by simpa using hp
        have hgt : ¬ g.t = 0 := fun he => hno ⟨g, List.mem_of_getElem? hk, hgm, he⟩
        have hpos : 0 < g.t := by
          have := (h1.1.2.1.1 g (List.mem_of_getElem? hk))
          rcases this.2.2.2.2 with h5 | h5
          · exact absurd h5 hgt
          · have := this.2.2.1; omega
        have t1 : decide (0 < g.t) = true := decide_eq_true hpos
        have hklt := lt_of_some hk
        obtain ⟨bb, off, rfl, hlo1, hlo2, h64, hcell0, hcell1, hcell2⟩ := h.grs_at hk
        clear h1 h2 h3 hno hgm hgt hpos hp hcell0 hcell1 hk
        go_enter Try.func40, Try.ntmps40
        go_wp2_with fail
        have hbw0 : Below w.heap.size w ((w.alloc (.cells #[.slice A r.keys.length c, .slice (some ⟨bb, off, none⟩) r.grs.length d] 30)).alloc (.cells #[.slice none 0 0, .slice none 0 0] 30)) := below_alloc' (below_alloc _ _) _
        have k0 : Blk ((w.alloc (.cells #[.slice A r.keys.length c, .slice (some ⟨bb, off, none⟩) r.grs.length d] 30)).alloc (.cells #[.slice none 0 0, .slice none 0 0] 30)) (w.heap.size) 30 #[.slice A r.keys.length c, .slice (some ⟨bb, off, none⟩) r.grs.length d] := by
          have hk := blk_alloc (Blk.new w 30 #[.slice A r.keys.length c, .slice (some ⟨bb, off, none⟩) r.grs.length d]) (.cells #[.slice none 0 0, .slice none 0 0] 30)
          exact hk
        have k1 : Blk ((w.alloc (.cells #[.slice A r.keys.length c, .slice (some ⟨bb, off, none⟩) r.grs.length d] 30)).alloc (.cells #[.slice none 0 0, .slice none 0 0] 30)) (w.heap.size + 1) 30 #[.slice none 0 0, .slice none 0 0] := by
          have hk := Blk.new (w.alloc (.cells #[.slice A r.keys.length c, .slice (some ⟨bb, off, none⟩) r.grs.length d] 30)) 30 #[.slice none 0 0, .slice none 0 0]
          simp only [World.size_alloc] at hk
          exact hk
        have hsw0 : w.heap.size + 2 ≤ ((w.alloc (.cells #[.slice A r.keys.length c, .slice (some ⟨bb, off, none⟩) r.grs.length d] 30)).alloc (.cells #[.slice none 0 0, .slice none 0 0] 30)).heap.size := by simp only [World.size_alloc]; omega
        generalize ((w.alloc (.cells #[.slice A r.keys.length c, .slice (some ⟨bb, off, none⟩) r.grs.length d] 30)).alloc (.cells #[.slice none 0 0, .slice none 0 0] 30)) = w0 at *
        have ck0 := k0.cell
        have fk0 := k0.frozen
        have ck1 := k1.cell
        have fk1 := k1.frozen
        refine (specRingTurn_any r key _ _ _ _ _ (Nat.le_trans hhi hbw0.size) (sl_keep RInt.loc ha hbw0 hhi) (sl_keep RGr.loc h hbw0 hhi) hl1 hl2 r1 ok1 HT.out).mono ?_
        rintro e w1 ⟨v1, v2, rfl, o1, b1⟩
        replace k0 := blk_keep k0 b1
        replace ck0 := k0.cell
        replace fk0 := k0.frozen
        replace k1 := blk_keep k1 b1
        replace ck1 := k1.cell
        replace fk1 := k1.frozen
        replace hbw0 := below_below hbw0 b1
        obtain ⟨A1, c1, rfl⟩ := o1.keys.form
        obtain ⟨A2, c2, rfl⟩ := o1.grs.form
        have z1 := b1.size
        have ax := below_alloc w1 (.cells #[.slice A1 r1.keys.length c1, .slice A2 r1.grs.length c2] 30)
        have ka0 := (blk_keep k0 ax).cell
        go_wp2_with fail
        have hbwx : Below w1.heap.size w1 (w1.alloc (.cells #[.slice A1 r1.keys.length c1, .slice A2 r1.grs.length c2] 30)) := below_alloc _ _
        have m0 : Blk (w1.alloc (.cells #[.slice A1 r1.keys.length c1, .slice A2 r1.grs.length c2] 30)) (w1.heap.size) 30 #[.slice A1 r1.keys.length c1, .slice A2 r1.grs.length c2] := by
          have hk := Blk.new w1 30 #[.slice A1 r1.keys.length c1, .slice A2 r1.grs.length c2]
          exact hk
        have hswx : w1.heap.size + 1 ≤ (w1.alloc (.cells #[.slice A1 r1.keys.length c1, .slice A2 r1.grs.length c2] 30)).heap.size := by simp only [World.size_alloc]; omega
        generalize (w1.alloc (.cells #[.slice A1 r1.keys.length c1, .slice A2 r1.grs.length c2] 30)) = wx at *
        have cm0 := m0.cell
        have fm0 := m0.frozen
        replace k0 := blk_keep k0 hbwx
        replace ck0 := k0.cell
        replace fk0 := k0.frozen
        replace k1 := blk_keep k1 hbwx
        replace ck1 := k1.cell
        replace fk1 := k1.frozen
        replace hbw0 := below_below hbw0 hbwx
        have om := o1.below hbwx
        refine (l33At_any r mm _ _ _ lo hi (Nat.le_trans hhi hbw0.size) (sl_keep RGr.loc h hbw0 hhi)).mono ?_
        rintro e w2 ⟨rfl, b2⟩
        clear ka0 ax
        replace k0 := blk_keep k0 b2
        replace ck0 := k0.cell
        replace fk0 := k0.frozen
        replace k1 := blk_keep k1 b2
        replace ck1 := k1.cell
        replace fk1 := k1.frozen
        replace m0 := blk_keep m0 b2
        replace cm0 := m0.cell
        replace fm0 := m0.frozen
        replace hbw0 := below_below hbw0 b2
        replace om := om.below b2
        have z2 := b2.size
        go_wp2_with fail
        refine (specRingOk_any r _ _ _ _ _ (Nat.le_trans hhi hbw0.size) (sl_keep RInt.loc ha hbw0 hhi) (sl_keep RGr.loc h hbw0 hhi) true (by simp only [true_iff]; exact H1.out.1)).mono ?_
        rintro e w3 ⟨rfl, b3⟩
        replace k0 := blk_keep k0 b3
        replace ck0 := k0.cell
        replace fk0 := k0.frozen
        replace k1 := blk_keep k1 b3
        replace ck1 := k1.cell
        replace fk1 := k1.frozen
        replace m0 := blk_keep m0 b3
        replace cm0 := m0.cell
        replace fm0 := m0.frozen
        replace hbw0 := below_below hbw0 b3
        replace om := om.below b3
        have z3 := b3.size
        go_wp2_with fail
        refine (l2Key_any key _ true (by simp only [true_iff]; exact H1.out.2)).mono ?_
        rintro e w4 ⟨rfl, rfl⟩
        clear hix
        have hc3 : w3.cell? ⟨bb, off + k * 3 + 2, none⟩ = some (.int .i64 g.t) := cell_keep hbw0 hcell2
        go_wp2_with fail
        refine (l33Copy_any r _ _ _ _ _ (Nat.le_trans hhi hbw0.size) (sl_keep RInt.loc ha hbw0 hhi) (sl_keep RGr.loc h hbw0 hhi) hl1 hl2).mono ?_
        rintro e w5 ⟨v5, v6, rfl, o5, b5⟩
        replace k1 := blk_keep k1 b5
        replace ck1 := k1.cell
        replace fk1 := k1.frozen
        replace hbw0 := below_below hbw0 b5
        have z4 := m0.lt
        obtain ⟨A5, c5, rfl⟩ := o5.keys.form
        obtain ⟨A6, c6, rfl⟩ := o5.grs.form
        go_wp2_with fail
        exact bodyPost_ret (v := .tuple #[.agg #[_, _], .bool false]) (by simp [results, Try.results40, go_sem, ck1]) rfl ⟨_, _, rfl, ((o5.set_ _ (by dsimp only; omega)).set_ _ (by dsimp only; omega)).base (by omega), (hbw0.setCell (by simp) _).setCell (by simp) _⟩
    · clear h1 h2 h3
      go_enter Try.func40, Try.ntmps40
      go_wp2_with fail
      have hbw0 : Below w.heap.size w ((w.alloc (.cells #[.slice A r.keys.length c, .slice (B) r.grs.length d] 30)).alloc (.cells #[.slice none 0 0, .slice none 0 0] 30)) := below_alloc' (below_alloc _ _) _
      have k0 : Blk ((w.alloc (.cells #[.slice A r.keys.length c, .slice (B) r.grs.length d] 30)).alloc (.cells #[.slice none 0 0, .slice none 0 0] 30)) (w.heap.size) 30 #[.slice A r.keys.length c, .slice (B) r.grs.length d] := by
        have hk := blk_alloc (Blk.new w 30 #[.slice A r.keys.length c, .slice (B) r.grs.length d]) (.cells #[.slice none 0 0, .slice none 0 0] 30)
        exact hk
      have k1 : Blk ((w.alloc (.cells #[.slice A r.keys.length c, .slice (B) r.grs.length d] 30)).alloc (.cells #[.slice none 0 0, .slice none 0 0] 30)) (w.heap.size + 1) 30 #[.slice none 0 0, .slice none 0 0] := by
        have hk := Blk.new (w.alloc (.cells #[.slice A r.keys.length c, .slice (B) r.grs.length d] 30)) 30 #[.slice none 0 0, .slice none 0 0]
        simp only [World.size_alloc] at hk
        exact hk
      have hsw0 : w.heap.size + 2 ≤ ((w.alloc (.cells #[.slice A r.keys.length c, .slice (B) r.grs.length d] 30)).alloc (.cells #[.slice none 0 0, .slice none 0 0] 30)).heap.size := by simp only [World.size_alloc]; omega
      generalize ((w.alloc (.cells #[.slice A r.keys.length c, .slice (B) r.grs.length d] 30)).alloc (.cells #[.slice none 0 0, .slice none 0 0] 30)) = w0 at *
      have ck0 := k0.cell
      have fk0 := k0.frozen
      have ck1 := k1.cell
      have fk1 := k1.frozen
      refine (specRingTurn_any r key _ _ _ _ _ (Nat.le_trans hhi hbw0.size) (sl_keep RInt.loc ha hbw0 hhi) (sl_keep RGr.loc h hbw0 hhi) hl1 hl2 r1 ok1 HT.out).mono ?_
      rintro e w1 ⟨v1, v2, rfl, o1, b1⟩
      replace k0 := blk_keep k0 b1
      replace ck0 := k0.cell
      replace fk0 := k0.frozen
      replace k1 := blk_keep k1 b1
      replace ck1 := k1.cell
      replace fk1 := k1.frozen
      replace hbw0 := below_below hbw0 b1
      obtain ⟨A1, c1, rfl⟩ := o1.keys.form
      obtain ⟨A2, c2, rfl⟩ := o1.grs.form
      have z1 := b1.size
      have ax := below_alloc w1 (.cells #[.slice A1 r1.keys.length c1, .slice A2 r1.grs.length c2] 30)
      have ka0 := (blk_keep k0 ax).cell
      go_wp2_with fail
      have hbwx : Below w1.heap.size w1 (w1.alloc (.cells #[.slice A1 r1.keys.length c1, .slice A2 r1.grs.length c2] 30)) := below_alloc _ _
      have m0 : Blk (w1.alloc (.cells #[.slice A1 r1.keys.length c1, .slice A2 r1.grs.length c2] 30)) (w1.heap.size) 30 #[.slice A1 r1.keys.length c1, .slice A2 r1.grs.length c2] := by
        have hk := Blk.new w1 30 #[.slice A1 r1.keys.length c1, .slice A2 r1.grs.length c2]
        exact hk
      have hswx : w1.heap.size + 1 ≤ (w1.alloc (.cells #[.slice A1 r1.keys.length c1, .slice A2 r1.grs.length c2] 30)).heap.size := by simp only [World.size_alloc]; omega
      generalize (w1.alloc (.cells #[.slice A1 r1.keys.length c1, .slice A2 r1.grs.length c2] 30)) = wx at *
      have cm0 := m0.cell
      have fm0 := m0.frozen
      replace k0 := blk_keep k0 hbwx
      replace ck0 := k0.cell
      replace fk0 := k0.frozen
      replace k1 := blk_keep k1 hbwx
      replace ck1 := k1.cell
      replace fk1 := k1.frozen
      replace hbw0 := below_below hbw0 hbwx
      have om := o1.below hbwx
      refine (l33At_any r mm _ _ _ lo hi (Nat.le_trans hhi hbw0.size) (sl_keep RGr.loc h hbw0 hhi)).mono ?_
      rintro e w2 ⟨rfl, b2⟩
      clear ka0 ax
      replace k0 := blk_keep k0 b2
      replace ck0 := k0.cell
      replace fk0 := k0.frozen
      replace k1 := blk_keep k1 b2
      replace ck1 := k1.cell
      replace fk1 := k1.frozen
      replace m0 := blk_keep m0 b2
      replace cm0 := m0.cell
      replace fm0 := m0.frozen
      replace hbw0 := below_below hbw0 b2
      replace om := om.below b2
      have z2 := b2.size
      go_wp2_with fail
      refine (specRingOk_any r _ _ _ _ _ (Nat.le_trans hhi hbw0.size) (sl_keep RInt.loc ha hbw0 hhi) (sl_keep RGr.loc h hbw0 hhi) true (by simp only [true_iff]; exact H1.out.1)).mono ?_
      rintro e w3 ⟨rfl, b3⟩
      replace k0 := blk_keep k0 b3
      replace ck0 := k0.cell
      replace fk0 := k0.frozen
      replace k1 := blk_keep k1 b3
      replace ck1 := k1.cell
      replace fk1 := k1.frozen
      replace m0 := blk_keep m0 b3
      replace cm0 := m0.cell
      replace fm0 := m0.frozen
      replace hbw0 := below_below hbw0 b3
      replace om := om.below b3
      have z3 := b3.size
      go_wp2_with fail
      refine (l2Key_any key _ true (by simp only [true_iff]; exact H1.out.2)).mono ?_
      rintro e w4 ⟨rfl, rfl⟩
      go_wp2_with fail
      refine (l33Copy_any r _ _ _ _ _ (Nat.le_trans hhi hbw0.size) (sl_keep RInt.loc ha hbw0 hhi) (sl_keep RGr.loc h hbw0 hhi) hl1 hl2).mono ?_
      rintro e w5 ⟨v5, v6, rfl, o5, b5⟩
      replace k1 := blk_keep k1 b5
      replace ck1 := k1.cell
      replace fk1 := k1.frozen
      replace hbw0 := below_below hbw0 b5
      have z4 := m0.lt
      obtain ⟨A5, c5, rfl⟩ := o5.keys.form
      obtain ⟨A6, c6, rfl⟩ := o5.grs.form
      go_wp2_with fail
      exact bodyPost_ret (v := .tuple #[.agg #[_, _], .bool false]) (by simp [results, Try.results40, go_sem, ck1]) rfl ⟨_, _, rfl, ((o5.set_ _ (by dsimp only; omega)).set_ _ (by dsimp only; omega)).base (by omega), (hbw0.setCell (by simp) _).setCell (by simp) _⟩
    · exact absurd h1 b
  · clear ht
    by_cases p : ringP r
    · have H1 := Lib.hid h1; clear h1
      have P := Lib.hid p; clear p
      have hk : ¬ (1 ≤ key ∧ key ≤ 99) := fun hk => H1.out ⟨P.out, hk⟩
      have HK := Lib.hid hk; clear hk
      go_enter Try.func40, Try.ntmps40
      go_wp2_with fail
      have hbw0 : Below w.heap.size w ((w.alloc (.cells #[.slice A r.keys.length c, .slice (B) r.grs.length d] 30)).alloc (.cells #[.slice none 0 0, .slice none 0 0] 30)) := below_alloc' (below_alloc _ _) _
      have k0 : Blk ((w.alloc (.cells #[.slice A r.keys.length c, .slice (B) r.grs.length d] 30)).alloc (.cells #[.slice none 0 0, .slice none 0 0] 30)) (w.heap.size) 30 #[.slice A r.keys.length c, .slice (B) r.grs.length d] := by
        have hk := blk_alloc (Blk.new w 30 #[.slice A r.keys.length c, .slice (B) r.grs.length d]) (.cells #[.slice none 0 0, .slice none 0 0] 30)
        exact hk
      have k1 : Blk ((w.alloc (.cells #[.slice A r.keys.length c, .slice (B) r.grs.length d] 30)).alloc (.cells #[.slice none 0 0, .slice none 0 0] 30)) (w.heap.size + 1) 30 #[.slice none 0 0, .slice none 0 0] := by
        have hk := Blk.new (w.alloc (.cells #[.slice A r.keys.length c, .slice (B) r.grs.length d] 30)) 30 #[.slice none 0 0, .slice none 0 0]
        simp only [World.size_alloc] at hk
        exact hk
      have hsw0 : w.heap.size + 2 ≤ ((w.alloc (.cells #[.slice A r.keys.length c, .slice (B) r.grs.length d] 30)).alloc (.cells #[.slice none 0 0, .slice none 0 0] 30)).heap.size := by simp only [World.size_alloc]; omega
      generalize ((w.alloc (.cells #[.slice A r.keys.length c, .slice (B) r.grs.length d] 30)).alloc (.cells #[.slice none 0 0, .slice none 0 0] 30)) = w0 at *
      have ck0 := k0.cell
      have fk0 := k0.frozen
      have ck1 := k1.cell
      have fk1 := k1.frozen
      refine (specRingTurn_any r key _ _ _ _ _ (Nat.le_trans hhi hbw0.size) (sl_keep RInt.loc ha hbw0 hhi) (sl_keep RGr.loc h hbw0 hhi) hl1 hl2 r1 ok1 HT.out).mono ?_
      rintro e w1 ⟨v1, v2, rfl, o1, b1⟩
      replace k0 := blk_keep k0 b1
      replace ck0 := k0.cell
      replace fk0 := k0.frozen
      replace k1 := blk_keep k1 b1
      replace ck1 := k1.cell
      replace fk1 := k1.frozen
      replace hbw0 := below_below hbw0 b1
      obtain ⟨A1, c1, rfl⟩ := o1.keys.form
      obtain ⟨A2, c2, rfl⟩ := o1.grs.form
      have z1 := b1.size
      have ax := below_alloc w1 (.cells #[.slice A1 r1.keys.length c1, .slice A2 r1.grs.length c2] 30)
      have ka0 := (blk_keep k0 ax).cell
      go_wp2_with fail
      have hbwx : Below w1.heap.size w1 (w1.alloc (.cells #[.slice A1 r1.keys.length c1, .slice A2 r1.grs.length c2] 30)) := below_alloc _ _
      have m0 : Blk (w1.alloc (.cells #[.slice A1 r1.keys.length c1, .slice A2 r1.grs.length c2] 30)) (w1.heap.size) 30 #[.slice A1 r1.keys.length c1, .slice A2 r1.grs.length c2] := by
        have hk := Blk.new w1 30 #[.slice A1 r1.keys.length c1, .slice A2 r1.grs.length c2]
        exact hk
      have hswx : w1.heap.size + 1 ≤ (w1.alloc (.cells #[.slice A1 r1.keys.length c1, .slice A2 r1.grs.length c2] 30)).heap.size := by simp only [World.size_alloc]; omega
      generalize (w1.alloc (.cells #[.slice A1 r1.keys.length c1, .slice A2 r1.grs.length c2] 30)) = wx at *
      have cm0 := m0.cell
      have fm0 := m0.frozen
      replace k0 := blk_keep k0 hbwx
      replace ck0 := k0.cell
      replace fk0 := k0.frozen
      replace k1 := blk_keep k1 hbwx
      replace ck1 := k1.cell
      replace fk1 := k1.frozen
      replace hbw0 := below_below hbw0 hbwx
      have om := o1.below hbwx
      refine (l33At_any r mm _ _ _ lo hi (Nat.le_trans hhi hbw0.size) (sl_keep RGr.loc h hbw0 hhi)).mono ?_
      rintro e w2 ⟨rfl, b2⟩
      clear ka0 ax
      replace k0 := blk_keep k0 b2
      replace ck0 := k0.cell
      replace fk0 := k0.frozen
      replace k1 := blk_keep k1 b2
      replace ck1 := k1.cell
      replace fk1 := k1.frozen
      replace m0 := blk_keep m0 b2
      replace cm0 := m0.cell
      replace fm0 := m0.frozen
      replace hbw0 := below_below hbw0 b2
      replace om := om.below b2
      have z2 := b2.size
      go_wp2_with fail
      refine (specRingOk_any r _ _ _ _ _ (Nat.le_trans hhi hbw0.size) (sl_keep RInt.loc ha hbw0 hhi) (sl_keep RGr.loc h hbw0 hhi) true (by simp only [true_iff]; exact P.out)).mono ?_
      rintro e w3 ⟨rfl, b3⟩
      replace k0 := blk_keep k0 b3
      replace ck0 := k0.cell
      replace fk0 := k0.frozen
      replace k1 := blk_keep k1 b3
      replace ck1 := k1.cell
      replace fk1 := k1.frozen
      replace m0 := blk_keep m0 b3
      replace cm0 := m0.cell
      replace fm0 := m0.frozen
      replace hbw0 := below_below hbw0 b3
      replace om := om.below b3
      have z3 := b3.size
      go_wp2_with fail
      refine (l2Key_any key _ false (by simp only [Bool.false_eq_true, false_iff]; exact HK.out)).mono ?_
      rintro e w2 ⟨rfl, rfl⟩
      go_wp2_with fail
      exact bodyPost_ret (v := .tuple #[.agg #[.slice none 0 0, .slice none 0 0], .bool false]) (by simp [results, Try.results40, go_sem, ck1]) rfl ⟨_, _, rfl, OwnRg.nil _ _, (hbw0.setCell (by simp) _).setCell (by simp) _⟩
    · have P := Lib.hid p; clear p h1
      go_enter Try.func40, Try.ntmps40
      go_wp2_with fail
      have hbw0 : Below w.heap.size w ((w.alloc (.cells #[.slice A r.keys.length c, .slice (B) r.grs.length d] 30)).alloc (.cells #[.slice none 0 0, .slice none 0 0] 30)) := below_alloc' (below_alloc _ _) _
      have k0 : Blk ((w.alloc (.cells #[.slice A r.keys.length c, .slice (B) r.grs.length d] 30)).alloc (.cells #[.slice none 0 0, .slice none 0 0] 30)) (w.heap.size) 30 #[.slice A r.keys.length c, .slice (B) r.grs.length d] := by
        have hk := blk_alloc (Blk.new w 30 #[.slice A r.keys.length c, .slice (B) r.grs.length d]) (.cells #[.slice none 0 0, .slice none 0 0] 30)
        exact hk
      have k1 : Blk ((w.alloc (.cells #[.slice A r.keys.length c, .slice (B) r.grs.length d] 30)).alloc (.cells #[.slice none 0 0, .slice none 0 0] 30)) (w.heap.size + 1) 30 #[.slice none 0 0, .slice none 0 0] := by
        have hk := Blk.new (w.alloc (.cells #[.slice A r.keys.length c, .slice (B) r.grs.length d] 30)) 30 #[.slice none 0 0, .slice none 0 0]
        simp only [World.size_alloc] at hk
        exact hk
      have hsw0 : w.heap.size + 2 ≤ ((w.alloc (.cells #[.slice A r.keys.length c, .slice (B) r.grs.length d] 30)).alloc (.cells #[.slice none 0 0, .slice none 0 0] 30)).heap.size := by simp only [World.size_alloc]; omega
      generalize ((w.alloc (.cells #[.slice A r.keys.length c, .slice (B) r.grs.length d] 30)).alloc (.cells #[.slice none 0 0, .slice none 0 0] 30)) = w0 at *
      have ck0 := k0.cell
      have fk0 := k0.frozen
      have ck1 := k1.cell
      have fk1 := k1.frozen
      refine (specRingTurn_any r key _ _ _ _ _ (Nat.le_trans hhi hbw0.size) (sl_keep RInt.loc ha hbw0 hhi) (sl_keep RGr.loc h hbw0 hhi) hl1 hl2 r1 ok1 HT.out).mono ?_
      rintro e w1 ⟨v1, v2, rfl, o1, b1⟩
      replace k0 := blk_keep k0 b1
      replace ck0 := k0.cell
      replace fk0 := k0.frozen
      replace k1 := blk_keep k1 b1
      replace ck1 := k1.cell
      replace fk1 := k1.frozen
      replace hbw0 := below_below hbw0 b1
      obtain ⟨A1, c1, rfl⟩ := o1.keys.form
      obtain ⟨A2, c2, rfl⟩ := o1.grs.form
      have z1 := b1.size
      have ax := below_alloc w1 (.cells #[.slice A1 r1.keys.length c1, .slice A2 r1.grs.length c2] 30)
      have ka0 := (blk_keep k0 ax).cell
      go_wp2_with fail
      have hbwx : Below w1.heap.size w1 (w1.alloc (.cells #[.slice A1 r1.keys.length c1, .slice A2 r1.grs.length c2] 30)) := below_alloc _ _
      have m0 : Blk (w1.alloc (.cells #[.slice A1 r1.keys.length c1, .slice A2 r1.grs.length c2] 30)) (w1.heap.size) 30 #[.slice A1 r1.keys.length c1, .slice A2 r1.grs.length c2] := by
        have hk := Blk.new w1 30 #[.slice A1 r1.keys.length c1, .slice A2 r1.grs.length c2]
        exact hk
      have hswx : w1.heap.size + 1 ≤ (w1.alloc (.cells #[.slice A1 r1.keys.length c1, .slice A2 r1.grs.length c2] 30)).heap.size := by simp only [World.size_alloc]; omega
      generalize (w1.alloc (.cells #[.slice A1 r1.keys.length c1, .slice A2 r1.grs.length c2] 30)) = wx at *
      have cm0 := m0.cell
      have fm0 := m0.frozen
      replace k0 := blk_keep k0 hbwx
      replace ck0 := k0.cell
      replace fk0 := k0.frozen
      replace k1 := blk_keep k1 hbwx
      replace ck1 := k1.cell
      replace fk1 := k1.frozen
      replace hbw0 := below_below hbw0 hbwx
      have om := o1.below hbwx
      refine (l33At_any r mm _ _ _ lo hi (Nat.le_trans hhi hbw0.size) (sl_keep RGr.loc h hbw0 hhi)).mono ?_
      rintro e w2 ⟨rfl, b2⟩
      clear ka0 ax
      replace k0 := blk_keep k0 b2
      replace ck0 := k0.cell
      replace fk0 := k0.frozen
      replace k1 := blk_keep k1 b2
      replace ck1 := k1.cell
      replace fk1 := k1.frozen
      replace m0 := blk_keep m0 b2
      replace cm0 := m0.cell
      replace fm0 := m0.frozen
      replace hbw0 := below_below hbw0 b2
      replace om := om.below b2
      have z2 := b2.size
      go_wp2_with fail
      refine (specRingOk_any r _ _ _ _ _ (Nat.le_trans hhi hbw0.size) (sl_keep RInt.loc ha hbw0 hhi) (sl_keep RGr.loc h hbw0 hhi) false (by simp only [Bool.false_eq_true, false_iff]; exact P.out)).mono ?_
      rintro e w3 ⟨rfl, b3⟩
      replace k0 := blk_keep k0 b3
      replace ck0 := k0.cell
      replace fk0 := k0.frozen
      replace k1 := blk_keep k1 b3
      replace ck1 := k1.cell
      replace fk1 := k1.frozen
      replace m0 := blk_keep m0 b3
      replace cm0 := m0.cell
      replace fm0 := m0.frozen
      replace hbw0 := below_below hbw0 b3
      replace om := om.below b3
      have z3 := b3.size
      go_wp2_with fail
      exact bodyPost_ret (v := .tuple #[.agg #[.slice none 0 0, .slice none 0 0], .bool false]) (by simp [results, Try.results40, go_sem, ck1]) rfl ⟨_, _, rfl, OwnRg.nil _ _, (hbw0.setCell (by simp) _).setCell (by simp) _⟩
end Go.Proofs.Ytdbeclnoaeiaeaa
