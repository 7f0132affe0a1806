/- Cpy, Bck, Lsp, LspB, LspC. -/
import Derived.Test.YtpdkgpbfmpekgaaGL



/- A store anew, by the reference. -/
namespace Go.Proofs.Ytpdkgpbfmpekgaa
open Go.RowKit

theorem ORow.obT {α : Type} {E : Rep α} {e : TypeId} {sz : Nat} {w : World} {lo hi : Nat} {v : Value} {xs : List α} (h : ORow e E sz w lo hi xs [v]) {b : Nat} (hb : v.ownBlock = some b) : ∃ ds, Blk w b e ds := by
  obtain ⟨v', cells, e1, h, _⟩ := h
  cases e1
  rcases h.2 with ⟨rfl, _⟩ | ⟨g', cap, cur, rfl, _, hk, _⟩
  · cases hb
  · cases hb; exact ⟨_, hk⟩
theorem Lit0.orow {α : Type} {E : Rep α} {e : TypeId} {sz : Nat} {w : World} {lo hi : Nat} {v : Value} (h : Lit0 lo e v w) (hh : w.heap.size ≤ hi) : ORow e E sz w lo hi [] [v] := by
  obtain ⟨g, rfl, hb, hk⟩ := h
  have := hk.lt
  exact ⟨_, [], rfl, Lit0.own ⟨g, rfl, hb, hk⟩ sz, fun b hb' => by cases hb'; dsimp only; omega, Els.nil (by omega)⟩
/-- Blocks of one type stay when a block of another one changes. -/
theorem blk_own {α : Type} {E : Rep α} {e : TypeId} {sz : Nat} {w w' : World} {lo hi : Nat} {v : Value} {xs : List α} (h : ORow e E sz w lo hi xs [v]) (hc : Chg (fun b => v.ownBlock = some b) w w') {g : Nat} {t : TypeId} {cs : Array Value} (hk : Blk w g t cs) (ht : t ≠ e) : Blk w' g t cs :=
  blk_chg hk hc fun hs => by
    obtain ⟨ds, hd⟩ := h.obT hs
    exact ht (blk_type hk hd)
theorem tl_own {α β : Type} {E : Rep α} {D : Rep β} {T : List TypeId} {e : TypeId} {sz : Nat} {w w' : World} {lo hi lo2 hi2 : Nat} {v : Value} {xs : List α} {y : β} {cs : List Value} (h : ORow e E sz w lo hi xs [v]) (hc : Chg (fun b => v.ownBlock = some b) w w') (hD : TLoc D T) (hy : D w lo2 hi2 y cs) (ht : e ∉ T) : D w' lo2 hi2 y cs :=
  hD.chg hy hc fun b _ _ hb hs => by
    obtain ⟨ds, hd⟩ := h.obT hs
    obtain ⟨t, h1, ds', hd'⟩ := hb
    exact ht (blk_type hd' hd ▸ h1)
theorem tl_set {β : Type} {D : Rep β} {T : List TypeId} {w : World} {lo hi g : Nat} {t : TypeId} {cs0 : Array Value} {y : β} {cs : List Value} (hD : TLoc D T) (hy : D w lo hi y cs) (hk : Blk w g t cs0) (ht : t ∉ T) (i : Nat) (u : Value) : D (w.setCell ⟨g, i, none⟩ u) lo (w.setCell ⟨g, i, none⟩ u).heap.size y cs ∨ True := .inr trivial
theorem tl_set' {β : Type} {D : Rep β} {T : List TypeId} {w : World} {lo hi g : Nat} {t : TypeId} {cs0 : Array Value} {y : β} {cs : List Value} (hD : TLoc D T) (hy : D w lo hi y cs) (hk : Blk w g t cs0) (ht : t ∉ T) (i : Nat) (u : Value) : D (w.setCell ⟨g, i, none⟩ u) lo hi y cs :=
  hD.go (fun b _ _ hb => Below.heap_setCell _ _ _ _ (by rintro rfl; exact typed_ne hk ht hb)) (Nat.le_refl _) (Nat.le_refl _) hy
theorem tl_setN {β : Type} {D : Rep β} {T : List TypeId} {w : World} {lo hi g i : Nat} {u : Value} {y : β} {cs : List Value} (hD : TLoc D T) (hy : D w lo hi y cs) (hg : hi ≤ g) : D (w.setCell ⟨g, i, none⟩ u) lo hi y cs :=
  hD.go (fun b _ h2 _ => Below.heap_setCell _ _ _ _ (by dsimp only; omega)) (Nat.le_refl _) (Nat.le_refl _) hy
/-- What the copy of a store holds on to while it goes on. -/
structure CpSt (w wr : World) (L : Nat) (A B C : Option Addr) (a b c : Nat) (s : Sto) (gm : Nat) (vp vs vl : Value) (pk : List Pk) (sn : List Sn) (H : Nat) : Prop where
  k0 : Blk wr w.heap.size 27 #[.slice A s.pk.length a, .slice B s.sn.length b, .slice C s.lg.length c]
  k1 : Blk wr (w.heap.size + 1) 27 #[.slice none 0 0, .slice none 0 0, .slice none 0 0]
  m : Blk wr gm 27 #[vp, vs, vl]
  op : OPks wr L H pk [vp]
  os : OSns wr L H sn [vs]
  ol : OHds wr L H s.lg [vl]
  bl : Below w.heap.size w wr
  gm1 : w.heap.size + 1 < gm
  gm2 : gm < wr.heap.size
  hL : w.heap.size ≤ L
  hH : H ≤ wr.heap.size
  gmr : gm < H
theorem CpSt.below {w wr w' : World} {L gm H : Nat} {A B C : Option Addr} {a b c : Nat} {s : Sto} {vp vs vl : Value} {pk : List Pk} {sn : List Sn} (h : CpSt w wr L A B C a b c s gm vp vs vl pk sn H) (hb : Below wr.heap.size wr w') : CpSt w w' L A B C a b c s gm vp vs vl pk sn H :=
  ⟨blk_keep h.k0 hb, blk_keep h.k1 hb, blk_keep h.m hb, OPks.tloc.below h.op hb h.hH, OSns.tloc.below h.os hb h.hH, OHds.tloc.below h.ol hb h.hH, below_below h.bl hb, h.gm1, Nat.lt_of_lt_of_le h.gm2 hb.size, h.hL, Nat.le_trans h.hH hb.size, h.gmr⟩
set_option maxRecDepth 8000 in
set_option maxHeartbeats 8000000 in
theorem l21Copy_any (s : Sto) (va vb vc : Value) (w : World) (lo hi : Nat) (h : RStoL w lo hi s va vb vc) (hhi : hi ≤ w.heap.size) (hl : bSto s ≤ 1099511627) :
    Calls Try.prog 19 #[.agg #[va, vb, vc]] w (NewSto w s) := by
  obtain ⟨h1, h2, h3⟩ := h
  obtain ⟨A, a, rfl⟩ := RSl.form h1
  obtain ⟨B, b, rfl⟩ := RSl.form h2
  obtain ⟨C, c, rfl⟩ := RSl.form h3
  obtain ⟨_, ha1, ha2⟩ := h1.len_
  obtain ⟨_, hb1, hb2⟩ := h2.len_
  obtain ⟨_, hc1, hc2⟩ := h3.len_
  unfold maxLen at ha2 hb2 hc2
  unfold bSto at hl
  have hl1 := bulkS_len (f := bPk) (l := s.pk)
  have hl2 := bulkS_len (f := bSn) (l := s.sn)
  have hgl := RSl.good (F := FHd) h3
  go_enter Try.func19, Try.ntmps19
  go_wp2_with (at_builtin; refine stopper ?_)
  refine ⟨?_, trivial⟩
  have hbw0 : Below w.heap.size w (((((w.alloc (.cells #[.slice A s.pk.length a, .slice B s.sn.length b, .slice C s.lg.length c] 27)).alloc (.cells #[.slice none 0 0, .slice none 0 0, .slice none 0 0] 27)).alloc (.cells #[] 37)).alloc (.cells #[] 52)).alloc (.cells #[] 59)) := below_alloc' (below_alloc' (below_alloc' (below_alloc' (below_alloc _ _) _) _) _) _
  have k0 : Blk (((((w.alloc (.cells #[.slice A s.pk.length a, .slice B s.sn.length b, .slice C s.lg.length c] 27)).alloc (.cells #[.slice none 0 0, .slice none 0 0, .slice none 0 0] 27)).alloc (.cells #[] 37)).alloc (.cells #[] 52)).alloc (.cells #[] 59)) (w.heap.size) 27 #[.slice A s.pk.length a, .slice B s.sn.length b, .slice C s.lg.length c] := by
    have hk := blk_alloc (blk_alloc (blk_alloc (blk_alloc (Blk.new w 27 #[.slice A s.pk.length a, .slice B s.sn.length b, .slice C s.lg.length c]) (.cells #[.slice none 0 0, .slice none 0 0, .slice none 0 0] 27)) (.cells #[] 37)) (.cells #[] 52)) (.cells #[] 59)
    exact hk
  have k1 : Blk (((((w.alloc (.cells #[.slice A s.pk.length a, .slice B s.sn.length b, .slice C s.lg.length c] 27)).alloc (.cells #[.slice none 0 0, .slice none 0 0, .slice none 0 0] 27)).alloc (.cells #[] 37)).alloc (.cells #[] 52)).alloc (.cells #[] 59)) (w.heap.size + 1) 27 #[.slice none 0 0, .slice none 0 0, .slice none 0 0] := by
    have hk := blk_alloc (blk_alloc (blk_alloc (Blk.new (w.alloc (.cells #[.slice A s.pk.length a, .slice B s.sn.length b, .slice C s.lg.length c] 27)) 27 #[.slice none 0 0, .slice none 0 0, .slice none 0 0]) (.cells #[] 37)) (.cells #[] 52)) (.cells #[] 59)
    simp only [World.size_alloc] at hk
    exact hk
  have k2 : Blk (((((w.alloc (.cells #[.slice A s.pk.length a, .slice B s.sn.length b, .slice C s.lg.length c] 27)).alloc (.cells #[.slice none 0 0, .slice none 0 0, .slice none 0 0] 27)).alloc (.cells #[] 37)).alloc (.cells #[] 52)).alloc (.cells #[] 59)) (w.heap.size + 1 + 1) 37 #[] := by
    have hk := blk_alloc (blk_alloc (Blk.new ((w.alloc (.cells #[.slice A s.pk.length a, .slice B s.sn.length b, .slice C s.lg.length c] 27)).alloc (.cells #[.slice none 0 0, .slice none 0 0, .slice none 0 0] 27)) 37 #[]) (.cells #[] 52)) (.cells #[] 59)
    simp only [World.size_alloc] at hk
    exact hk
  have k3 : Blk (((((w.alloc (.cells #[.slice A s.pk.length a, .slice B s.sn.length b, .slice C s.lg.length c] 27)).alloc (.cells #[.slice none 0 0, .slice none 0 0, .slice none 0 0] 27)).alloc (.cells #[] 37)).alloc (.cells #[] 52)).alloc (.cells #[] 59)) (w.heap.size + 1 + 1 + 1) 52 #[] := by
    have hk := blk_alloc (Blk.new (((w.alloc (.cells #[.slice A s.pk.length a, .slice B s.sn.length b, .slice C s.lg.length c] 27)).alloc (.cells #[.slice none 0 0, .slice none 0 0, .slice none 0 0] 27)).alloc (.cells #[] 37)) 52 #[]) (.cells #[] 59)
    simp only [World.size_alloc] at hk
    exact hk
  have k4 : Blk (((((w.alloc (.cells #[.slice A s.pk.length a, .slice B s.sn.length b, .slice C s.lg.length c] 27)).alloc (.cells #[.slice none 0 0, .slice none 0 0, .slice none 0 0] 27)).alloc (.cells #[] 37)).alloc (.cells #[] 52)).alloc (.cells #[] 59)) (w.heap.size + 1 + 1 + 1 + 1) 59 #[] := by
    have hk := Blk.new ((((w.alloc (.cells #[.slice A s.pk.length a, .slice B s.sn.length b, .slice C s.lg.length c] 27)).alloc (.cells #[.slice none 0 0, .slice none 0 0, .slice none 0 0] 27)).alloc (.cells #[] 37)).alloc (.cells #[] 52)) 59 #[]
    simp only [World.size_alloc] at hk
    exact hk
  have hsw0 : w.heap.size + 5 ≤ (((((w.alloc (.cells #[.slice A s.pk.length a, .slice B s.sn.length b, .slice C s.lg.length c] 27)).alloc (.cells #[.slice none 0 0, .slice none 0 0, .slice none 0 0] 27)).alloc (.cells #[] 37)).alloc (.cells #[] 52)).alloc (.cells #[] 59)).heap.size := by simp only [World.size_alloc]; omega
  generalize (((((w.alloc (.cells #[.slice A s.pk.length a, .slice B s.sn.length b, .slice C s.lg.length c] 27)).alloc (.cells #[.slice none 0 0, .slice none 0 0, .slice none 0 0] 27)).alloc (.cells #[] 37)).alloc (.cells #[] 52)).alloc (.cells #[] 59)) = w0 at *
  have ck0 := k0.cell
  have fk0 := k0.frozen
  have ck1 := k1.cell
  have fk1 := k1.frozen
  have ck2 := k2.cell
  have fk2 := k2.frozen
  have ck3 := k3.cell
  have fk3 := k3.frozen
  have ck4 := k4.cell
  have fk4 := k4.frozen
  have hsrc := src_flat (F := FHd) h3 hhi
  have hl4 : Lit0 w.heap.size 59 (.slice (some ⟨w.heap.size + 1 + 1 + 1 + 1, 0, none⟩) 0 0) w0 := ⟨_, rfl, by omega, k4⟩
  refine app_copy (F := FHd) (xs := s.lg) hbw0 rfl (.tmp 11) (.tmp 13) 25 rfl elem_hd (Nat.le_refl _) rfl rfl hl4 hsrc (by omega) ?_
  intro vl x1 hle1 hol
  replace k0 := blk_keep k0 hle1
  replace ck0 := k0.cell
  replace fk0 := k0.frozen
  replace k1 := blk_keep k1 hle1
  replace ck1 := k1.cell
  replace fk1 := k1.frozen
  replace k2 := blk_keep k2 hle1
  replace ck2 := k2.cell
  replace fk2 := k2.frozen
  replace k3 := blk_keep k3 hle1
  replace ck3 := k3.cell
  replace fk3 := k3.frozen
  replace hbw0 := below_below hbw0 hle1
  obtain ⟨Cl, cl, rfl⟩ := hol.form
  have z1 := hle1.size
  clear k4 ck4 fk4 hl4 hsrc
  go_wp2_with fail
  have hbw1 : Below x1.heap.size x1 (x1.alloc (.cells #[.slice (some ⟨w.heap.size + 1 + 1, 0, none⟩) 0 0, .slice (some ⟨w.heap.size + 1 + 1 + 1, 0, none⟩) 0 0, .slice Cl s.lg.length cl] 27)) := below_alloc _ _
  have m0 : Blk (x1.alloc (.cells #[.slice (some ⟨w.heap.size + 1 + 1, 0, none⟩) 0 0, .slice (some ⟨w.heap.size + 1 + 1 + 1, 0, none⟩) 0 0, .slice Cl s.lg.length cl] 27)) (x1.heap.size) 27 #[.slice (some ⟨w.heap.size + 1 + 1, 0, none⟩) 0 0, .slice (some ⟨w.heap.size + 1 + 1 + 1, 0, none⟩) 0 0, .slice Cl s.lg.length cl] := by
    have hk := Blk.new x1 27 #[.slice (some ⟨w.heap.size + 1 + 1, 0, none⟩) 0 0, .slice (some ⟨w.heap.size + 1 + 1 + 1, 0, none⟩) 0 0, .slice Cl s.lg.length cl]
    exact hk
  have hsw1 : x1.heap.size + 1 ≤ (x1.alloc (.cells #[.slice (some ⟨w.heap.size + 1 + 1, 0, none⟩) 0 0, .slice (some ⟨w.heap.size + 1 + 1 + 1, 0, none⟩) 0 0, .slice Cl s.lg.length cl] 27)).heap.size := by simp only [World.size_alloc]; omega
  generalize (x1.alloc (.cells #[.slice (some ⟨w.heap.size + 1 + 1, 0, none⟩) 0 0, .slice (some ⟨w.heap.size + 1 + 1 + 1, 0, none⟩) 0 0, .slice Cl s.lg.length cl] 27)) = w1 at *
  have cm0 := m0.cell
  have fm0 := m0.frozen
  replace k0 := blk_keep k0 hbw1
  replace ck0 := k0.cell
  replace fk0 := k0.frozen
  replace k1 := blk_keep k1 hbw1
  replace ck1 := k1.cell
  replace fk1 := k1.frozen
  replace k2 := blk_keep k2 hbw1
  replace ck2 := k2.cell
  replace fk2 := k2.frozen
  replace k3 := blk_keep k3 hbw1
  replace ck3 := k3.cell
  replace fk3 := k3.frozen
  have hol2 := hol.below hbw1
  have hcp : CpSt w w1 w.heap.size A B C a b c s x1.heap.size (.slice (some ⟨w.heap.size + 1 + 1, 0, none⟩) 0 0) (.slice (some ⟨w.heap.size + 1 + 1 + 1, 0, none⟩) 0 0) (.slice Cl s.lg.length cl) [] [] w1.heap.size :=
    ⟨k0, k1, m0, Lit0.orow ⟨_, rfl, by omega, k2⟩ (Nat.le_refl _), Lit0.orow ⟨_, rfl, by omega, k3⟩ (Nat.le_refl _), hol2.orow hgl (by omega) (fun g hg => (hol2.at_ hg).2), below_below hbw0 hbw1, by omega, by omega, Nat.le_refl _, Nat.le_refl _, by omega⟩
  have HCP := Lib.hid hcp
  obtain ⟨gm, hgm⟩ : ∃ gm, gm = x1.heap.size := ⟨_, rfl⟩
  rw [← hgm] at HCP ⊢
  obtain ⟨vs, hvs⟩ : ∃ vs, vs = Value.slice (some ⟨w.heap.size + 1 + 1 + 1, 0, none⟩) 0 0 := ⟨_, rfl⟩
  rw [← hvs] at HCP
  clear hgm hvs hcp k0 k1 k2 k3 m0 ck0 ck1 ck2 ck3 cm0 fk0 fk1 fk2 fk3 fm0 hol hol2 hbw0 hbw1 hle1
  go_loopw [4] (fun ii wr => ∃ (k : Nat) (vo : Value), k ≤ s.pk.length ∧ ii = .int .i64 k ∧ CpSt w wr w.heap.size A B C a b c s gm vo vs (.slice Cl s.lg.length cl) (s.pk.take k) [] wr.heap.size) (fun ii _ => s.pk.length - (intOf ii).toNat)
  case atStart => exact ⟨0, _, Nat.zero_le _, rfl, HCP.out⟩
  case round =>
    clear HCP
    obtain ⟨k, vo, hk, rfl, hcp⟩ := hrel
    obtain ⟨Ao, co, rfl⟩ := hcp.op.form
    have htl : (s.pk.take k).length = k := by rw [List.length_take, Nat.min_eq_left hk]
    rw [htl] at hcp
    have ck0 : wr.cell? ⟨w.heap.size, 0, none⟩ = some (.slice A s.pk.length a) := hcp.k0.cell 0
    by_cases hlt : k < s.pk.length
    · obtain ⟨y, hyk⟩ := some_of_lt hlt
      have hbk := bulkS_mem (f := bPk) (List.mem_of_getElem? hyk)
      have hits : y.its.length ≤ bPk y := bulkS_len
      obtain ⟨b', off, es, e0, _, hbb, _, ⟨v2, rfl, hgd, hr⟩, hcc⟩ := (RPksL.loc.below h1 hcp.bl hhi).at_ hyk
      subst e0
      obtain ⟨A2, c2, rfl⟩ := RSl.form hr
      have hc0 : wr.cell? ⟨b', off + k * 2, none⟩ = some (.int .i64 y.no) := by simpa using hcc 0 _ rfl
      have hc1' : wr.cell? ⟨b', off + k * 2 + 1, none⟩ = some (.slice A2 y.its.length c2) := by simpa using hcc 1 _ rfl
      have cm : wr.cell? ⟨gm, 0, none⟩ = some (.slice Ao k co) := hcp.m.cell 0
      have hnext := take_succ hyk
      have HN := Lib.hid hnext
      have HTL := Lib.hid htl
      have hsrc := Lib.hid (src_flat (F := FIt) hr (by have := hcp.bl.size; omega))
      have hgood := Lib.hid (RSl.good (F := FIt) hr)
      have HCP := Lib.hid hcp
      have zr := hcp.bl.size
      clear hcc hyk hnext htl hr hcp
      go_wp2_with fail
      have past0 := past_cell ck0
      have past1 := past_cell hc0
      have past2 := past_cell hc1'
      have past3 := past_cell cm
      refine region_pastT 18 [0, 1, 2, 3, 4, 5, 6, 7, 9, 10, 11, 12, 13, 14] [8, 15, 16, 17] (by kernel_rfl) (by kernel_rfl) (by kernel_rfl) ?_
      simp only [pick, List.map, List.getD_cons_zero, List.getD_cons_succ]
      repeat (go_big_quiet_step (fail))
      refine wpQuiet_nil ?_
      clear past0 past1 past2 past3
      apply Exists.intro
      apply past_any (Lit0 wr.heap.size 57)
      · rfl
      · exact fun v x y h hle => h.keep hle
      · intro x _ Qx hQ'
        have hQ := Lib.hid hQ'; clear hQ'
        go_wp2_with fail
        exact hQ.out _ _ (below_alloc _ _) (Lit0.new _ _ x.ok.size)
      intro u8
      simp only [Act.put, List.setIfInBounds_toArray, List.set_cons_zero, List.set_cons_succ]
      apply past_any (fun v w' => OwnF FIt 57 w' wr.heap.size v y.its)
      · rfl
      · exact fun v x y h hle => h.below hle
      · intro x hF Qx hQ
        have hL := hF.1 (by kernel_rfl)
        exact tab_copy rfl (.tmp 31) (.tmp 37) 35 rfl elem_it (Nat.le_refl _) rfl rfl hL hsrc.out (by omega) fun v' x' hle ho => hQ v' x'.to hle ho
      intro u15
      simp only [Act.put, List.setIfInBounds_toArray, List.set_cons_zero, List.set_cons_succ]
      apply past_any (fun v w' => ∃ A c, v = .agg #[.int .i64 y.no, .slice A y.its.length c] ∧ OwnF FIt 57 w' wr.heap.size (.slice A y.its.length c) y.its)
      · rfl
      · exact fun v x y ⟨A, c, e, h⟩ hle => ⟨A, c, e, h.below hle⟩
      · intro x hF Qx hQ'
        have hQ := Lib.hid hQ'; clear hQ'
        have ho := hF.1 (by kernel_rfl)
        obtain ⟨A5, c5, rfl⟩ := ho.form
        go_wp2_with fail
        exact hQ.out _ _ (Below.refl _ _) ⟨_, _, rfl, ho⟩
      intro u16
      simp only [Act.put, List.setIfInBounds_toArray, List.set_cons_zero, List.set_cons_succ]
      apply past_any (fun v w' => ∃ g A c, v = .slice (some ⟨g, 0, none⟩) 1 1 ∧ Blk w' g 37 #[.int .i64 y.no, .slice A y.its.length c] ∧ OwnF FIt 57 w' wr.heap.size (.slice A y.its.length c) y.its)
      · rfl
      · exact fun v x y ⟨g, A, c, e, hk, h⟩ hle => ⟨g, A, c, e, blk_keep hk hle, h.below hle⟩
      · intro x hF Qx hQ'
        have hQ := Lib.hid hQ'; clear hQ'
        obtain ⟨A5, c5, rfl, ho⟩ := hF.1 (by kernel_rfl)
        go_wp2_with fail
        have ba := below_alloc x.to (.cells #[.int .i64 y.no, .slice A5 y.its.length c5] 37)
        exact hQ.out _ _ ba ⟨_, _, _, rfl, Blk.new _ _ _, ho.below ba⟩
      intro u17
      simp only [Act.put, List.setIfInBounds_toArray, List.set_cons_zero, List.set_cons_succ]
      refine past_end ?_
      intro w6 hb6 xx hxx hF
      dsimp only [allF] at hF
      try rw [hxx] at hF
      clear hxx xx
      obtain ⟨⟨g8, A8, c8, rfl, kb8, o8⟩, -⟩ := hF
      simp only [List.drop]
      have hcp6 := HCP.out.below hb6
      have z6 := hb6.size
      have HO8 : Hid (OPk w6 wr.heap.size w6.heap.size y [.int .i64 y.no, .slice A8 y.its.length c8]) := Lib.hid ⟨_, rfl, hgd, o8.orow hgood.out (by omega) fun g hg => (o8.at_ hg).2⟩
      have HK8 := Lib.hid kb8
      have HC6 := Lib.hid hcp6
      clear HCP hb6 o8 kb8 hcp6 hc0 hc1' cm ck0 hsrc
      go_wp2_with (at_builtin; refine stopper ?_)
      refine ⟨?_, trivial⟩
      refine app_orow OPk.tloc (by decide) (v := .slice Ao k co) rfl (.tmp 24) (.tmp 40) 23 rfl elem_pk y rfl HC6.out.op rfl HK8.out rfl (by simp [Value.oneCell']) z6 HO8.out (Nat.le_refl _) (by have := HTL.out; omega) (by omega) ?_
      intro v9 w9 o9 ch9 at9
      obtain ⟨A9, c9, rfl⟩ := o9.form
      rw [List.length_append, List.length_singleton, HTL.out] at o9
      rw [List.length_append, List.length_singleton, HTL.out]
      have hop := HC6.out.op
      have km9 := blk_own hop ch9 HC6.out.m (by decide)
      have k09 := blk_own hop ch9 HC6.out.k0 (by decide)
      have k19 := blk_own hop ch9 HC6.out.k1 (by decide)
      have os9 := tl_own hop ch9 OSns.tloc HC6.out.os (by decide)
      have ol9 := tl_own hop ch9 OHds.tloc HC6.out.ol (by decide)
      have hb9 : Below w.heap.size w w9 := HC6.out.bl.trans (ch9.below HC6.out.bl.size fun i hi hs => by have := hop.ob hs; omega)
      have cm9 : w9.cell? ⟨gm, 0, none⟩ = some (.slice Ao k co) := km9.cell 0
      have fm9 := km9.frozen 0
      have z9 := ch9.size
      have hg1 := HC6.out.gm1
      have hg2 := HC6.out.gm2
      have hms := km9.set_ 0 (.slice A9 (k + 1) c9)
      simp only [List.setIfInBounds_toArray, List.set_cons_zero, List.set_cons_succ] at hms
      have hcp9 : CpSt w (w9.setCell ⟨gm, 0, none⟩ (.slice A9 (k + 1) c9)) w.heap.size _ B C a b c s gm (.slice A9 (k + 1) c9) vs (.slice Cl s.lg.length cl) (s.pk.take (k + 1)) [] (w9.setCell ⟨gm, 0, none⟩ (.slice A9 (k + 1) c9)).heap.size :=
        ⟨blk_ne k09 (p := ⟨gm, 0, none⟩) _ (by dsimp only; omega), blk_ne k19 (p := ⟨gm, 0, none⟩) _ (by dsimp only; omega), hms,
          by rw [HN.out]; simp only [World.size_setCell]; exact tl_set' OPks.tloc o9 km9 (by decide) 0 _,
          by simp only [World.size_setCell]; exact OSns.tloc.wide (tl_set' OSns.tloc os9 km9 (by decide) 0 _) (Nat.le_refl _) (Nat.le_trans z6 z9),
          by simp only [World.size_setCell]; exact OHds.tloc.wide (tl_set' OHds.tloc ol9 km9 (by decide) 0 _) (Nat.le_refl _) (Nat.le_trans z6 z9),
          hb9.setCell (by dsimp only; omega) _, hg1, by simp only [World.size_setCell]; omega, Nat.le_refl _, Nat.le_refl _, by simp only [World.size_setCell]; omega⟩
      have HC9 := Lib.hid hcp9
      clear hcp9 hms os9 ol9 hop k09 k19 km9
      go_wp2_with fail
      go_roundw
      case rel => exact ⟨k + 1, _, by omega, by go_num, HC9.out⟩
      case measure => simp [intOf]; omega
    · obtain rfl : k = s.pk.length := by omega
      rw [List.take_length] at hcp
      obtain ⟨Ap, hAp⟩ : ∃ A, A = Ao := ⟨_, rfl⟩
      obtain ⟨cp, hcpe⟩ : ∃ c, c = co := ⟨_, rfl⟩
      subst hAp hcpe
      have HCP := Lib.hid hcp
      clear hcp
      go_wp2_with fail
      clear ck0
      go_loopw [5] (fun ii wr => ∃ (k : Nat) (vo : Value), k ≤ s.sn.length ∧ ii = .int .i64 k ∧ CpSt w wr w.heap.size A B C a b c s gm (.slice Ap s.pk.length cp) vo (.slice Cl s.lg.length cl) s.pk (s.sn.take k) wr.heap.size) (fun ii _ => s.sn.length - (intOf ii).toNat)
      case atStart => exact ⟨0, _, Nat.zero_le _, rfl, HCP.out⟩
      case round =>
        clear HCP
        obtain ⟨k, vo, hk, rfl, hcp⟩ := hrel
        obtain ⟨Ao, co, rfl⟩ := hcp.os.form
        have htl : (s.sn.take k).length = k := by rw [List.length_take, Nat.min_eq_left hk]
        rw [htl] at hcp
        have ck0 : wr.cell? ⟨w.heap.size, 1, none⟩ = some (.slice B s.sn.length b) := hcp.k0.cell 1
        by_cases hlt : k < s.sn.length
        · obtain ⟨y, hyk⟩ := some_of_lt hlt
          have hbk := bulkS_mem (f := bSn) (List.mem_of_getElem? hyk)
          have hby : bulkS bLs y.all = bSn y := rfl
          have hay : y.all.length ≤ bulkS bLs y.all := bulkS_len
          obtain ⟨b', off, es, e0, hlb', hbb, _, ⟨v2, rfl, hgd, hr⟩, hcc⟩ := (RSnsL.loc.below h2 hcp.bl hhi).at_ hyk
          subst e0
          obtain ⟨A2, c2, rfl⟩ := RSl.form hr
          obtain ⟨_, hr1, hr2⟩ := hr.len_
          unfold maxLen at hr2
          have hc0 : wr.cell? ⟨b', off + k * 2, none⟩ = some (.int .i64 y.no) := by simpa using hcc 0 _ rfl
          have hc1' : wr.cell? ⟨b', off + k * 2 + 1, none⟩ = some (.slice A2 y.all.length c2) := by simpa using hcc 1 _ rfl
          have hnext := take_succ hyk
          have HN := Lib.hid hnext
          have HTL := Lib.hid htl
          have HY := Lib.hid hyk
          have HCP := Lib.hid hcp
          have zr := hcp.bl.size
          clear hcc hyk hnext htl hr hcp
          go_wp2_with fail
          obtain ⟨wo, hwo⟩ : ∃ wo, wo = wr := ⟨_, rfl⟩
          subst hwo
          have hbw2 : Below wo.heap.size wo ((wo.alloc (.cells #[] 89)).alloc (.cells #[.int .i64 y.no, .slice (some ⟨wo.heap.size, 0, none⟩) 0 0] 52)) := below_alloc' (below_alloc _ _) _
          have n0 : Blk ((wo.alloc (.cells #[] 89)).alloc (.cells #[.int .i64 y.no, .slice (some ⟨wo.heap.size, 0, none⟩) 0 0] 52)) (wo.heap.size) 89 #[] := by
            have hk := blk_alloc (Blk.new wo 89 #[]) (.cells #[.int .i64 y.no, .slice (some ⟨wo.heap.size, 0, none⟩) 0 0] 52)
            exact hk
          have n1 : Blk ((wo.alloc (.cells #[] 89)).alloc (.cells #[.int .i64 y.no, .slice (some ⟨wo.heap.size, 0, none⟩) 0 0] 52)) (wo.heap.size + 1) 52 #[.int .i64 y.no, .slice (some ⟨wo.heap.size, 0, none⟩) 0 0] := by
            have hk := Blk.new (wo.alloc (.cells #[] 89)) 52 #[.int .i64 y.no, .slice (some ⟨wo.heap.size, 0, none⟩) 0 0]
            simp only [World.size_alloc] at hk
            exact hk
          have hsw2 : wo.heap.size + 2 ≤ ((wo.alloc (.cells #[] 89)).alloc (.cells #[.int .i64 y.no, .slice (some ⟨wo.heap.size, 0, none⟩) 0 0] 52)).heap.size := by simp only [World.size_alloc]; omega
          generalize ((wo.alloc (.cells #[] 89)).alloc (.cells #[.int .i64 y.no, .slice (some ⟨wo.heap.size, 0, none⟩) 0 0] 52)) = w2 at *
          have cn0 := n0.cell
          have fn0 := n0.frozen
          have cn1 := n1.cell
          have fn1 := n1.frozen
          have hcp2 := HCP.out.below hbw2
          have HCP2 := Lib.hid hcp2
          have hstart : OLss w2 wo.heap.size w2.heap.size [] [.slice (some ⟨wo.heap.size, 0, none⟩) 0 0] := Lit0.orow ⟨_, rfl, Nat.le_refl _, n0⟩ (Nat.le_refl _)
          have HST := Lib.hid (And.intro hstart n1)
          clear HCP hcp2 hc0 hc1' ck0 n0 n1 cn0 cn1 fn0 fn1 hstart
          go_loopw [7] (fun ii wr => ∃ (j : Nat) (va : Value), j ≤ y.all.length ∧ ii = .int .i64 j ∧ OLss wr wo.heap.size wr.heap.size (y.all.take j) [va] ∧ Blk wr (wo.heap.size + 1) 52 #[.int .i64 y.no, va] ∧ CpSt w wr w.heap.size A (some ⟨b', off, none⟩) C a b c s gm (.slice Ap s.pk.length cp) (.slice Ao k co) (.slice Cl s.lg.length cl) s.pk (s.sn.take k) wo.heap.size) (fun ii _ => y.all.length - (intOf ii).toNat)
          case atStart => exact ⟨0, _, Nat.zero_le _, rfl, HST.out.1, HST.out.2, HCP2.out⟩
          case round =>
            clear HST HCP2
            obtain ⟨j, va, hj, rfl, hol, hn1, hcp⟩ := hrel
            obtain ⟨Av, cv, rfl⟩ := hol.form
            have htl : (y.all.take j).length = j := by rw [List.length_take, Nat.min_eq_left hj]
            rw [htl] at hol hn1
            have ck0 : wr.cell? ⟨w.heap.size, 1, none⟩ = some (.slice (some ⟨b', off, none⟩) s.sn.length b) := hcp.k0.cell 1
            have zx := hcp.hH
            have zw := hcp.bl.size
            obtain ⟨b2, off2, es, e0, _, _, _, ⟨v2, rfl, hgd2, hr⟩, hcc⟩ := (RSnsL.loc.below h2 hcp.bl hhi).at_ HY.out
            simp only [Option.some.injEq, Addr.mk.injEq, and_true] at e0
            obtain ⟨rfl, rfl⟩ := e0
            obtain ⟨A3, c3, rfl⟩ := RSl.form hr
            obtain ⟨_, hr3, hr4⟩ := hr.len_
            unfold maxLen at hr4
            have hc1 : wr.cell? ⟨b', off + k * 2 + 1, none⟩ = some (.slice A3 y.all.length c3) := by simpa using hcc 1 _ rfl
            clear hcc
            by_cases hjl : j < y.all.length
            · obtain ⟨z, hzj⟩ := some_of_lt hjl
              have hbz := bulkS_mem (f := bLs) (List.mem_of_getElem? hzj)
              have hzn : z.ns.length ≤ bLs z := Nat.le_add_left _ _
              obtain ⟨b3, off3, es, e0, _, _, _, ⟨v4, rfl, hgz, hri⟩, hcc⟩ := hr.at_ hzj
              subst e0
              obtain ⟨A4, c4, rfl⟩ := RSl.form hri
              have hz0 : wr.cell? ⟨b3, off3 + j * 2, none⟩ = some (.string z.p) := by simpa using hcc 0 _ rfl
              have hz1 : wr.cell? ⟨b3, off3 + j * 2 + 1, none⟩ = some (.slice A4 z.ns.length c4) := by simpa using hcc 1 _ rfl
              have hnext := take_succ hzj
              have HNZ := Lib.hid hnext
              have HTZ := Lib.hid htl
              have HCX := Lib.hid hcp
              have HOL := Lib.hid hol
              have HRI := Lib.hid hri
              clear hcc hzj hnext htl hr hcp hol hri
              go_wp2_with fail
              have hbwa : Below wr.heap.size wr (wr.alloc (.cells #[.string z.p, .slice A4 z.ns.length c4] 89)) := below_alloc _ _
              have q0 : Blk (wr.alloc (.cells #[.string z.p, .slice A4 z.ns.length c4] 89)) (wr.heap.size) 89 #[.string z.p, .slice A4 z.ns.length c4] := by
                have hk := Blk.new wr 89 #[.string z.p, .slice A4 z.ns.length c4]
                exact hk
              have hswa : wr.heap.size + 1 ≤ (wr.alloc (.cells #[.string z.p, .slice A4 z.ns.length c4] 89)).heap.size := by simp only [World.size_alloc]; omega
              generalize (wr.alloc (.cells #[.string z.p, .slice A4 z.ns.length c4] 89)) = wa at *
              have cq0 := q0.cell
              have fq0 := q0.frozen
              have hcpa := HCX.out.below hbwa
              have hola := OLss.tloc.below HOL.out hbwa (Nat.le_refl _)
              have hn1a := blk_keep hn1 hbwa
              have hria := RIntsL.loc.below HRI.out hbwa (by omega)
              have hsrc := Lib.hid (src_flat (F := FInt) hria (by have := hbwa.size; omega))
              have hin := Lib.hid hria.in64
              have HCA := Lib.hid hcpa
              have HOA := Lib.hid hola
              have cn1 : wa.cell? ⟨wo.heap.size + 1, 1, none⟩ = some (.slice Av j cv) := hn1a.cell 1
              have gq0 := cq0 0
              have gq1 := cq0 1
              have zaa := hbwa.size
              clear HCX HOL HRI hcpa hola hria hz0 hz1 hc1 ck0 hn1 hbwa
              have past0 := past_cell cn1
              have past1 := past_cell gq0
              have past2 := past_cell gq1
              refine region_pastT 10 [0, 1, 2, 3, 5, 6] [4, 7, 8, 9] (by kernel_rfl) (by kernel_rfl) (by kernel_rfl) ?_
              simp only [pick, List.map, List.getD_cons_zero, List.getD_cons_succ]
              repeat (go_big_quiet_step (fail))
              refine wpQuiet_nil ?_
              clear past0 past1 past2
              apply Exists.intro
              apply past_any (Lit0 wa.heap.size 3)
              · rfl
              · exact fun v x y h hle => h.keep hle
              · intro x _ Qx hQ'
                have hQ := Lib.hid hQ'; clear hQ'
                go_wp2_with fail
                exact hQ.out _ _ (below_alloc _ _) (Lit0.new _ _ x.ok.size)
              intro u4
              simp only [Act.put, List.setIfInBounds_toArray, List.set_cons_zero, List.set_cons_succ]
              apply past_any (fun v w' => OwnF FInt 3 w' wa.heap.size v z.ns)
              · rfl
              · exact fun v x y h hle => h.below hle
              · intro x hF Qx hQ
                have hL := hF.1 (by kernel_rfl)
                exact tab_copy rfl (.tmp 82) (.tmp 84) 87 rfl elem_int (Nat.le_refl _) rfl rfl hL hsrc.out (by omega) fun v' x' hle ho => hQ v' x'.to hle ho
              intro u7
              simp only [Act.put, List.setIfInBounds_toArray, List.set_cons_zero, List.set_cons_succ]
              apply past_any (fun v w' => ∃ A c, v = .agg #[.string z.p, .slice A z.ns.length c] ∧ OwnF FInt 3 w' wa.heap.size (.slice A z.ns.length c) z.ns)
              · rfl
              · exact fun v x y ⟨A, c, e, h⟩ hle => ⟨A, c, e, h.below hle⟩
              · intro x hF Qx hQ'
                have hQ := Lib.hid hQ'; clear hQ'
                have ho := hF.1 (by kernel_rfl)
                obtain ⟨A5, c5, rfl⟩ := ho.form
                go_wp2_with fail
                exact hQ.out _ _ (Below.refl _ _) ⟨_, _, rfl, ho⟩
              intro u8
              simp only [Act.put, List.setIfInBounds_toArray, List.set_cons_zero, List.set_cons_succ]
              apply past_any (fun v w' => ∃ g A c, v = .slice (some ⟨g, 0, none⟩) 1 1 ∧ Blk w' g 89 #[.string z.p, .slice A z.ns.length c] ∧ OwnF FInt 3 w' wa.heap.size (.slice A z.ns.length c) z.ns)
              · rfl
              · exact fun v x y ⟨g, A, c, e, hk, h⟩ hle => ⟨g, A, c, e, blk_keep hk hle, h.below hle⟩
              · intro x hF Qx hQ'
                have hQ := Lib.hid hQ'; clear hQ'
                obtain ⟨A5, c5, rfl, ho⟩ := hF.1 (by kernel_rfl)
                go_wp2_with fail
                have ba := below_alloc x.to (.cells #[.string z.p, .slice A5 z.ns.length c5] 89)
                exact hQ.out _ _ ba ⟨_, _, _, rfl, Blk.new _ _ _, ho.below ba⟩
              intro u9
              simp only [Act.put, List.setIfInBounds_toArray, List.set_cons_zero, List.set_cons_succ]
              refine past_end ?_
              intro w6 hb6 xx hxx hF
              dsimp only [allF] at hF
              try rw [hxx] at hF
              clear hxx xx
              obtain ⟨⟨g8, A8, c8, rfl, kb8, o8⟩, -⟩ := hF
              simp only [List.drop]
              have hcp6 := HCA.out.below hb6
              have hol6 := OLss.tloc.below HOA.out hb6 zaa
              have hn6 := blk_keep hn1a hb6
              have z6 := hb6.size
              have HO8 : Hid (OLs w6 wa.heap.size w6.heap.size z [.string z.p, .slice A8 z.ns.length c8]) := Lib.hid ⟨_, rfl, hgz, o8.orow (fun x hx => hin.out x hx) (by omega) fun g hg => (o8.at_ hg).2⟩
              have HK8 := Lib.hid kb8
              have HC6 := Lib.hid hcp6
              have HO6 := Lib.hid hol6
              clear HCA HOA hb6 o8 kb8 hcp6 hol6 hsrc hn1a cn1 gq0 gq1 q0 cq0 fq0
              go_wp2_with (at_builtin; refine stopper ?_)
              refine ⟨?_, trivial⟩
              refine app_orow OLs.tloc (by decide) (v := .slice Av j cv) rfl (.tmp 79) (.tmp 87) 50 rfl elem_ls z rfl HO6.out rfl HK8.out rfl (by simp [Value.oneCell']) (show wr.heap.size ≤ w6.heap.size by omega) (OLs.tloc.wide HO8.out zaa (Nat.le_refl _)) (Nat.le_refl _) (by have := HTZ.out; omega) (by omega) ?_
              intro v9 w9 o9 ch9 at9
              obtain ⟨A9, c9, rfl⟩ := o9.form
              rw [List.length_append, List.length_singleton, HTZ.out] at o9
              rw [List.length_append, List.length_singleton, HTZ.out]
              have hop := HO6.out
              have z9 := ch9.size
              have hn9 := blk_own hop ch9 hn6 (by decide)
              have cn9 : w9.cell? ⟨wo.heap.size + 1, 1, none⟩ = some (.slice Av j cv) := hn9.cell 1
              have fn9 := hn9.frozen 1
              have hms := hn9.set_ 1 (.slice A9 (j + 1) c9)
              simp only [List.setIfInBounds_toArray, List.set_cons_zero, List.set_cons_succ] at hms
              have hg1 := HC6.out.gm1
              have hgr := HC6.out.gmr
              have hcp9 : CpSt w (w9.setCell ⟨wo.heap.size + 1, 1, none⟩ (.slice A9 (j + 1) c9)) w.heap.size _ _ C a b c s gm (.slice Ap s.pk.length cp) (.slice Ao k co) (.slice Cl s.lg.length cl) s.pk (s.sn.take k) wo.heap.size :=
                ⟨blk_ne (blk_own hop ch9 HC6.out.k0 (by decide)) (p := ⟨wo.heap.size + 1, 1, none⟩) _ (by dsimp only; omega), blk_ne (blk_own hop ch9 HC6.out.k1 (by decide)) (p := ⟨wo.heap.size + 1, 1, none⟩) _ (by dsimp only; omega), blk_ne (blk_own hop ch9 HC6.out.m (by decide)) (p := ⟨wo.heap.size + 1, 1, none⟩) _ (by dsimp only; omega),
                  tl_setN OPks.tloc (tl_own hop ch9 OPks.tloc HC6.out.op (by decide)) (by omega), tl_setN OSns.tloc (OSns.tloc.chg HC6.out.os ch9 fun b _ hb _ hs => by have := hop.ob hs; omega) (by omega), tl_setN OHds.tloc (tl_own hop ch9 OHds.tloc HC6.out.ol (by decide)) (by omega),
                  (HC6.out.bl.trans (ch9.below HC6.out.bl.size fun i hi hs => by have := hop.ob hs; omega)).setCell (by dsimp only; omega) _, hg1, by simp only [World.size_setCell]; have := HC6.out.gm2; omega, Nat.le_refl _, by simp only [World.size_setCell]; have := HC6.out.hH; omega, hgr⟩
              have hol9 : OLss (w9.setCell ⟨wo.heap.size + 1, 1, none⟩ (.slice A9 (j + 1) c9)) wo.heap.size (w9.setCell ⟨wo.heap.size + 1, 1, none⟩ (.slice A9 (j + 1) c9)).heap.size (y.all.take (j + 1)) [.slice A9 (j + 1) c9] := by
                rw [HNZ.out]; simp only [World.size_setCell]; exact tl_set' OLss.tloc o9 hn9 (by decide) 1 _
              have HCF := Lib.hid hcp9; have HOF := Lib.hid hol9; have HMS := Lib.hid hms
              clear hcp9 hol9 hms hop hn9 hn6
              go_wp2_with fail
              go_roundw
              case rel => exact ⟨j + 1, _, by omega, by go_num, HOF.out, HMS.out, HCF.out⟩
              case measure => simp [intOf]; omega
            · obtain rfl : j = y.all.length := by omega
              rw [List.take_length] at hol
              have hn10 : wr.cell? ⟨wo.heap.size + 1, 0, none⟩ = some (.int .i64 y.no) := hn1.cell 0
              have hn11 : wr.cell? ⟨wo.heap.size + 1, 1, none⟩ = some (.slice Av y.all.length cv) := hn1.cell 1
              have cmx : wr.cell? ⟨gm, 1, none⟩ = some (.slice Ao k co) := hcp.m.cell 1
              have HCX := Lib.hid hcp
              have HOL := Lib.hid hol
              clear hcp hol
              go_wp2_with (at_builtin; refine stopper ?_)
              refine ⟨?_, trivial⟩
              have bx := below_alloc wr (.cells #[.int .i64 y.no, .slice Av y.all.length cv] 52)
              have hcpx := HCX.out.below bx
              have hkx := Blk.new wr 52 #[.int .i64 y.no, .slice Av y.all.length cv]
              have hox := OLss.tloc.below HOL.out bx (Nat.le_refl _)
              generalize wr.alloc (.cells #[.int .i64 y.no, .slice Av y.all.length cv] 52) = w6 at *
              have z6 := bx.size
              have HC6 := Lib.hid hcpx
              have HOY : Hid (OSn w6 wo.heap.size w6.heap.size y [.int .i64 y.no, .slice Av y.all.length cv]) := Lib.hid ⟨_, rfl, hgd, OLss.tloc.wide hox (Nat.le_refl _) z6⟩
              clear hcpx hox HCX HOL hn10 hn11 cmx hn1 hc1 hr
              refine app_orow OSn.tloc (by decide) (v := .slice Ao k co) rfl (.tmp 91) (.tmp 93) 24 rfl elem_sn y rfl HC6.out.os rfl hkx rfl (by simp [Value.oneCell']) (show wo.heap.size ≤ w6.heap.size by omega) HOY.out (Nat.le_refl _) (by have := HTL.out; omega) (by omega) ?_
              intro v9 w9 o9 ch9 at9
              obtain ⟨A9, c9, rfl⟩ := o9.form
              rw [List.length_append, List.length_singleton, HTL.out] at o9
              rw [List.length_append, List.length_singleton, HTL.out]
              have hop := HC6.out.os
              have km9 := blk_own hop ch9 HC6.out.m (by decide)
              have k09 := blk_own hop ch9 HC6.out.k0 (by decide)
              have k19 := blk_own hop ch9 HC6.out.k1 (by decide)
              have op9 := tl_own hop ch9 OPks.tloc HC6.out.op (by decide)
              have ol9 := tl_own hop ch9 OHds.tloc HC6.out.ol (by decide)
              have hb9 : Below w.heap.size w w9 := HC6.out.bl.trans (ch9.below HC6.out.bl.size fun i hi hs => by have := hop.ob hs; omega)
              have cm9 : w9.cell? ⟨gm, 1, none⟩ = some (.slice Ao k co) := km9.cell 1
              have fm9 := km9.frozen 1
              have z9 := ch9.size
              have hg1 := HC6.out.gm1
              have hg2 := HC6.out.gm2
              have hH6 := HC6.out.hH
              have hgr := HC6.out.gmr
              have hms := km9.set_ 1 (.slice A9 (k + 1) c9)
              simp only [List.setIfInBounds_toArray, List.set_cons_zero, List.set_cons_succ] at hms
              have hcp9 : CpSt w (w9.setCell ⟨gm, 1, none⟩ (.slice A9 (k + 1) c9)) w.heap.size _ _ C a b c s gm (.slice Ap s.pk.length cp) (.slice A9 (k + 1) c9) (.slice Cl s.lg.length cl) s.pk (s.sn.take (k + 1)) (w9.setCell ⟨gm, 1, none⟩ (.slice A9 (k + 1) c9)).heap.size :=
                ⟨blk_ne k09 (p := ⟨gm, 1, none⟩) _ (by dsimp only; omega), blk_ne k19 (p := ⟨gm, 1, none⟩) _ (by dsimp only; omega), hms,
                  by simp only [World.size_setCell]; exact OPks.tloc.wide (tl_set' OPks.tloc op9 km9 (by decide) 1 _) (Nat.le_refl _) (by omega),
                  by rw [HN.out]; simp only [World.size_setCell]; exact tl_set' OSns.tloc o9 km9 (by decide) 1 _,
                  by simp only [World.size_setCell]; exact OHds.tloc.wide (tl_set' OHds.tloc ol9 km9 (by decide) 1 _) (Nat.le_refl _) (by omega),
                  hb9.setCell (by dsimp only; omega) _, hg1, by simp only [World.size_setCell]; omega, Nat.le_refl _, Nat.le_refl _, by simp only [World.size_setCell]; omega⟩
              have HC9 := Lib.hid hcp9
              clear hcp9 hms op9 ol9 hop k09 k19 km9
              go_wp2_with fail
              go_roundw
              case rel => exact ⟨k + 1, _, by omega, by go_num, HC9.out⟩
              case measure => simp [intOf]; omega
        · obtain rfl : k = s.sn.length := by omega
          rw [List.take_length] at hcp
          have ck1 := hcp.k1.cell
          have fk1 := hcp.k1.frozen
          have ckm := hcp.m.cell
          have HCP := Lib.hid hcp
          have zr := hcp.bl.size
          clear hcp
          go_wp2_with fail
          have hg1 := HCP.out.gm1
          have hke : ∀ (u1 u2 u3 : Value) {β : Type} {D : Rep β} {T : List TypeId} {y : β} {cs : List Value}, TLoc D T → 27 ∉ T → D wr w.heap.size wr.heap.size y cs → D (((wr.setCell ⟨w.heap.size + 1, 0, none⟩ u1).setCell ⟨w.heap.size + 1, 1, none⟩ u2).setCell ⟨w.heap.size + 1, 2, none⟩ u3) w.heap.size (((wr.setCell ⟨w.heap.size + 1, 0, none⟩ u1).setCell ⟨w.heap.size + 1, 1, none⟩ u2).setCell ⟨w.heap.size + 1, 2, none⟩ u3).heap.size y cs := fun u1 u2 u3 {_ _ _ _ _} hD hT hy => by
            simp only [World.size_setCell]
            exact hD.go (fun b _ _ hb => by
              have hne : b ≠ w.heap.size + 1 := by rintro rfl; exact typed_ne HCP.out.k1 hT hb
              rw [Below.heap_setCell _ _ _ _ hne, Below.heap_setCell _ _ _ _ hne, Below.heap_setCell _ _ _ _ hne]) (Nat.le_refl _) (Nat.le_refl _) hy
          refine bodyPost_ret (v := .agg #[.slice Ap s.pk.length cp, .slice Ao s.sn.length co, .slice Cl s.lg.length cl]) (by simp [results, Try.results19, go_sem, ck1]) rfl ⟨_, _, _, rfl, ⟨hke _ _ _ OPks.tloc (by decide) HCP.out.op, hke _ _ _ OSns.tloc (by decide) HCP.out.os, hke _ _ _ OHds.tloc (by decide) HCP.out.ol⟩, ?_⟩
          exact ((HCP.out.bl.setCell (by dsimp only; omega) _).setCell (by dsimp only; omega) _).setCell (by dsimp only; omega) _
end Go.Proofs.Ytpdkgpbfmpekgaa




/- A store rolled back, by the reference. -/
namespace Go.Proofs.Ytpdkgpbfmpekgaa
open Go.RowKit

theorem RSl.take_ {α : Type} {E : Rep α} {sz : Nat} {w : World} {lo hi : Nat} {xs : List α} {A : Option Addr} {n c k : Nat} (h : RSl E sz w lo hi xs [.slice A n c]) (hk : k ≤ xs.length) : RSl E sz w lo hi (xs.take k) [.slice A k c] := by
  obtain ⟨A', c', e0, hc, hm, hx⟩ := h
  simp only [List.cons.injEq, Value.slice.injEq, and_true] at e0
  obtain ⟨rfl, rfl, rfl⟩ := e0
  have hl : (xs.take k).length = k := by rw [List.length_take]; omega
  refine ⟨_, c, by rw [hl], by rw [hl]; omega, hm, fun hp => ?_⟩
  rw [hl] at hp
  obtain ⟨b, off, rfl, h1, h2, hat⟩ := hx (by omega)
  refine ⟨b, off, rfl, h1, h2, fun i x hi => ?_⟩
  rw [List.getElem?_take] at hi
  split at hi
  · exact hat _ _ hi
  · cases hi
/-! ### A store read, its rows in blocks whose types are known -/
theorem OPks.T {w : World} {lo hi : Nat} {xs : List Pk} {cs : List Value} (h : OPks w lo hi xs cs) : RSlT 37 OPk 2 w lo hi xs cs := ORow.slT OPk.tloc.loc (fun h => h) h
theorem OSns.T {w : World} {lo hi : Nat} {xs : List Sn} {cs : List Value} (h : OSns w lo hi xs cs) : RSlT 52 OSn 2 w lo hi xs cs := ORow.slT OSn.tloc.loc (fun h => h) h
theorem OHds.T {w : World} {lo hi : Nat} {xs : List Hd} {cs : List Value} (h : OHds w lo hi xs cs) : RSlT 59 (RFlat FHd) 2 w lo hi xs cs := ORow.slT (RFlat.tloc FHd).loc (fun h => h) h
theorem OHw.T {w : World} {lo hi : Nat} {xs : List Hd} {cs : List Value} (h : OHw w lo hi xs cs) : RSlT 59 (RFlat FHd) 2 w lo hi xs cs := by
  refine ⟨OHw.l h, fun hp b off n c e => ?_⟩
  obtain ⟨A, c', rfl, a, b', c0, d, f⟩ := h
  obtain ⟨g, cur, rfl, g1, g2, hk, hc⟩ := f hp
  simp only [List.cons.injEq, Value.slice.injEq, Option.some.injEq, Addr.mk.injEq, and_true] at e
  obtain ⟨⟨rfl, -⟩, -, -⟩ := e
  exact ⟨cur, hk⟩
abbrev tPk : TLoc (RSlT 37 OPk 2) [37, 57] := RSlT.tloc OPk.tloc
abbrev tSn : TLoc (RSlT 52 OSn 2) [52, 89, 3] := RSlT.tloc OSn.tloc
abbrev tHd : TLoc (RSlT 59 (RFlat FHd) 2) [59] := RSlT.tloc (RFlat.tloc FHd)
structure TSto (w : World) (lo hi : Nat) (s : Sto) (va vb vc : Value) : Prop where
  pk : RSlT 37 OPk 2 w lo hi s.pk [va]
  sn : RSlT 52 OSn 2 w lo hi s.sn [vb]
  lg : RSlT 59 (RFlat FHd) 2 w lo hi s.lg [vc]
abbrev stoT : List TypeId := [37, 57, 52, 89, 3, 59]
theorem Typed.more {w : World} {T U : List TypeId} {b : Nat} (h : Typed w T b) (hU : ∀ t ∈ T, t ∈ U) : Typed w U b := by
  obtain ⟨t, h1, h2⟩ := h
  exact ⟨t, hU t h1, h2⟩
theorem TSto.typed {w w' : World} {lo hi lo' hi' : Nat} {s : Sto} {va vb vc : Value} (h : TSto w lo hi s va vb vc) (hs : ∀ b, lo ≤ b → b < hi → Typed w stoT b → w'.heap[b]? = w.heap[b]?) (h1 : lo' ≤ lo) (h2 : hi ≤ hi') : TSto w' lo' hi' s va vb vc :=
  ⟨tPk.go (fun b b1 b2 ht => hs b b1 b2 (ht.more (by decide))) h1 h2 h.pk, tSn.go (fun b b1 b2 ht => hs b b1 b2 (ht.more (by decide))) h1 h2 h.sn, tHd.go (fun b b1 b2 ht => hs b b1 b2 (ht.more (by decide))) h1 h2 h.lg⟩
theorem TSto.go {w w' : World} {lo hi lo' hi' : Nat} {s : Sto} {va vb vc : Value} (h : TSto w lo hi s va vb vc) (hs : ∀ b, lo ≤ b → b < hi → w'.heap[b]? = w.heap[b]?) (h1 : lo' ≤ lo) (h2 : hi ≤ hi') : TSto w' lo' hi' s va vb vc := h.typed (fun b b1 b2 _ => hs b b1 b2) h1 h2
theorem TSto.below {w w' : World} {lo hi B : Nat} {s : Sto} {va vb vc : Value} (h : TSto w lo hi s va vb vc) (hb : Below B w w') (hB : hi ≤ B) : TSto w' lo hi s va vb vc := h.go (fun b _ h2 => hb.block b (by omega)) (Nat.le_refl _) (Nat.le_refl _)
theorem TSto.wide {w : World} {lo hi lo' hi' : Nat} {s : Sto} {va vb vc : Value} (h : TSto w lo hi s va vb vc) (h1 : lo' ≤ lo) (h2 : hi ≤ hi') : TSto w lo' hi' s va vb vc := h.go (fun _ _ _ => rfl) h1 h2
theorem TSto.l {w : World} {lo hi : Nat} {s : Sto} {va vb vc : Value} (h : TSto w lo hi s va vb vc) : RStoL w lo hi s va vb vc := ⟨RSl.map_ OPk.l h.pk.1, RSl.map_ OSn.l h.sn.1, h.lg.1⟩
theorem TSto.form {w : World} {lo hi : Nat} {s : Sto} {va vb vc : Value} (h : TSto w lo hi s va vb vc) : ∃ A a B b C c, va = .slice A s.pk.length a ∧ vb = .slice B s.sn.length b ∧ vc = .slice C s.lg.length c := by
  obtain ⟨A, a, rfl⟩ := RSlT.form h.pk
  obtain ⟨B, b, rfl⟩ := RSlT.form h.sn
  obtain ⟨C, c, rfl⟩ := RSlT.form h.lg
  exact ⟨A, a, B, b, C, c, rfl, rfl, rfl⟩
theorem OSto.t {w : World} {lo hi : Nat} {s : Sto} {va vb vc : Value} (h : OSto w lo hi s va vb vc) : TSto w lo hi s va vb vc := ⟨OPks.T h.pk, OSns.T h.sn, OHds.T h.lg⟩
/-- What is read of a store that a call hands back. -/
def NewStL (w : World) (lo : Nat) (s : Sto) (e : Ending) (w' : World) : Prop := ∃ va vb vc, e = .returned (.agg #[va, vb, vc]) ∧ TSto w' lo w'.heap.size s va vb vc ∧ Below w.heap.size w w'
theorem any_take {α : Type} {l : List α} {p : α → Bool} {k : Nat} {x : α} (h : l[k]? = some x) : (l.take (k + 1)).any p = ((l.take k).any p || p x) := by
  rw [take_succ h, List.any_append]; simp
theorem OwnD.l {α : Type} {E E' : Rep α} {e : TypeId} {sz : Nat} (he : ∀ {w : World} {lo hi : Nat} {x : α} {es : List Value}, E w lo hi x es → E' w lo hi x es) {w : World} {lo base : Nat} {v : Value} {xs : List α} (h : OwnD E sz e w lo base v xs) (hl : lo ≤ base) : RSl E' sz w lo w.heap.size xs [v] := RSl.map_ he (h.sl hl).1
set_option maxRecDepth 8000 in
set_option maxHeartbeats 8000000 in
theorem l22Back_any (s : Sto) (l : LieV) (hk : l.k = 2) (va vb vc : Value) (w : World) (lo hi : Nat) (h : OSto w lo hi s va vb vc) (hhi : hi ≤ w.heap.size) (hl : bSto s ≤ 1099511627) :
    Calls Try.prog 20 #[.agg #[va, vb, vc], .int .i64 l.n] w (NewStL w lo (lieS s l)) := by
  obtain ⟨h1, h2, h3⟩ := h
  obtain ⟨A, a, rfl⟩ := ORow.form h1
  obtain ⟨B, b, rfl⟩ := ORow.form h2
  obtain ⟨C, c, rfl⟩ := ORow.form h3
  obtain ⟨_, hb1, hb2⟩ := (OSns.l h2).len_
  obtain ⟨_, hc1, hc2⟩ := (OHds.l h3).len_
  unfold maxLen at hb2 hc2
  unfold bSto at hl
  have hl2 := bulkS_len (f := bSn) (l := s.sn)
  have hlo : lo ≤ hi := by
    obtain ⟨_, _, _, _, _, hels⟩ := h1
    exact hels.le
  by_cases hin : 0 ≤ l.n ∧ l.n ≤ (s.lg.length : Int)
  · rw [lieS_2 hk hin]
    have hbool : (decide (0 ≤ l.n) && decide (l.n ≤ (s.lg.length : Int))) = true := by rw [Bool.and_eq_true]; exact ⟨decide_eq_true hin.1, decide_eq_true hin.2⟩
    have HBO := Lib.hid hbool
    obtain ⟨nn, hnn⟩ := Int.eq_ofNat_of_zero_le hin.1
    have hnt : l.n.toNat = nn := by omega
    rw [hnt]
    have hnl : nn ≤ s.lg.length := by omega
    rw [hnn] at HBO ⊢
    have hlnn : l.n = ((nn : Nat) : Int) := hnn
    clear hbool hin hnt hnn
    have g1 : ¬ (((nn : Nat) : Int) < 0) := by omega
    have g2 : ((nn : Nat) : Int) ≤ (s.lg.length : Int) := by omega
    have g3 : ((nn : Nat) : Int) ≤ (c : Int) := by omega
    have hdr : RHdsL w lo hi (s.lg.drop nn) [.slice (if c = nn then C else Option.map (fun x => x.add (nn * 2)) C) (s.lg.length - nn) (c - nn)] := RSl.drop_ (OHds.l h3) hnl
    have htk : RSlT 59 (RFlat FHd) 2 w lo hi (s.lg.take nn) [.slice C nn c] := RSlT.take_ (OHds.T h3) hnl
    obtain ⟨AD, hAD⟩ : ∃ AD, (if c = nn then C else Option.map (fun x => x.add (nn * 2)) C) = AD := ⟨_, rfl⟩
    rw [hAD] at hdr
    clear hlnn
    go_enter Try.func20, Try.ntmps20
    go_wp2_with fail
    have hbw0 : Below w.heap.size w ((w.alloc (.cells #[.slice A s.pk.length a, .slice B s.sn.length b, .slice C s.lg.length c] 27)).alloc (.cells #[.slice none 0 0, .slice none 0 0, .slice none 0 0] 27)) := below_alloc' (below_alloc _ _) _
    have k0 : Blk ((w.alloc (.cells #[.slice A s.pk.length a, .slice B s.sn.length b, .slice C s.lg.length c] 27)).alloc (.cells #[.slice none 0 0, .slice none 0 0, .slice none 0 0] 27)) (w.heap.size) 27 #[.slice A s.pk.length a, .slice B s.sn.length b, .slice C s.lg.length c] := by
      have hk := blk_alloc (Blk.new w 27 #[.slice A s.pk.length a, .slice B s.sn.length b, .slice C s.lg.length c]) (.cells #[.slice none 0 0, .slice none 0 0, .slice none 0 0] 27)
      exact hk
    have k1 : Blk ((w.alloc (.cells #[.slice A s.pk.length a, .slice B s.sn.length b, .slice C s.lg.length c] 27)).alloc (.cells #[.slice none 0 0, .slice none 0 0, .slice none 0 0] 27)) (w.heap.size + 1) 27 #[.slice none 0 0, .slice none 0 0, .slice none 0 0] := by
      have hk := Blk.new (w.alloc (.cells #[.slice A s.pk.length a, .slice B s.sn.length b, .slice C s.lg.length c] 27)) 27 #[.slice none 0 0, .slice none 0 0, .slice none 0 0]
      simp only [World.size_alloc] at hk
      exact hk
    have hsw0 : w.heap.size + 2 ≤ ((w.alloc (.cells #[.slice A s.pk.length a, .slice B s.sn.length b, .slice C s.lg.length c] 27)).alloc (.cells #[.slice none 0 0, .slice none 0 0, .slice none 0 0] 27)).heap.size := by simp only [World.size_alloc]; omega
    generalize ((w.alloc (.cells #[.slice A s.pk.length a, .slice B s.sn.length b, .slice C s.lg.length c] 27)).alloc (.cells #[.slice none 0 0, .slice none 0 0, .slice none 0 0] 27)) = w0 at *
    have ck0 := k0.cell
    have fk0 := k0.frozen
    have ck1 := k1.cell
    have fk1 := k1.frozen
    refine (l6In_any ((nn : Nat) : Int) 0 s.lg.length w0).mono ?_
    rintro e w1 ⟨rfl, rfl⟩
    rw [HBO.out]
    go_wp2_with fail
    have hk02 := k0.set_ 2 (.slice C nn c)
    simp only [List.setIfInBounds_toArray, List.set_cons_zero, List.set_cons_succ] at hk02
    have ba := below_alloc (w0.setCell ⟨w.heap.size, 2, none⟩ (.slice C nn c)) (.cells #[] 52)
    have q0 := blk_keep hk02 ba
    have q1 := blk_keep (blk_ne k1 (p := ⟨w.heap.size, 2, none⟩) (.slice C nn c) (by dsimp only; omega)) ba
    have hbq := below_below (hbw0.setCell (p := ⟨w.heap.size, 2, none⟩) (by dsimp only; omega) (.slice C nn c)) ba
    have hlit := Lit0.new (w0.setCell ⟨w.heap.size, 2, none⟩ (.slice C nn c)) 52 (Nat.le_refl _)
    have hszq : ((w0.setCell ⟨w.heap.size, 2, none⟩ (.slice C nn c)).alloc (.cells #[] 52)).heap.size = w0.heap.size + 1 := by simp
    have hlit2 : OwnD OSn 2 52 ((w0.setCell ⟨w.heap.size, 2, none⟩ (.slice C nn c)).alloc (.cells #[] 52)) lo w.heap.size (.slice (some ⟨w0.heap.size, 0, none⟩) 0 0) [] := OwnD.lit0 (by
      have := hlit
      simp only [World.size_setCell] at this
      obtain ⟨g, e, _, hk⟩ := this
      cases e
      exact ⟨_, rfl, by omega, hk⟩)
    clear k0 k1 ck0 ck1 fk0 fk1 hk02 ba hlit
    generalize (w0.setCell ⟨w.heap.size, 2, none⟩ (.slice C nn c)).alloc (.cells #[] 52) = w2 at *
    have hdl : (s.lg.drop nn).length = s.lg.length - nn := List.length_drop
    have HDL := Lib.hid hdl
    rw [← hdl]
    rw [← hdl] at hdr
    clear hdl hAD
    obtain ⟨LL, hLL⟩ : ∃ LL, LL = s.lg.drop nn := ⟨_, rfl⟩
    rw [← hLL] at hdr ⊢
    obtain ⟨_, hr3, hr4⟩ := hdr.len_
    unfold maxLen at hr4
    have HI := Lib.hid (And.intro q0 (And.intro q1 hbq))
    have HLT := Lib.hid hlit2
    have HLL := Lib.hid hLL
    clear q0 q1 hbq hlit2 hLL
    go_loopw [6, 7] (fun oo ii wr => ∃ k : Nat, k ≤ s.sn.length ∧ ii = .int .i64 k ∧ OwnD OSn 2 52 wr lo w.heap.size oo ((s.sn.take k).filter fun x => !(LL.any fun h => h.s == x.no)) ∧ Blk wr w.heap.size 27 #[.slice A s.pk.length a, .slice B s.sn.length b, .slice C nn c] ∧ Blk wr (w.heap.size + 1) 27 #[.slice none 0 0, .slice none 0 0, .slice none 0 0] ∧ Below w.heap.size w wr) (fun _ ii _ => s.sn.length - (intOf ii).toNat)
    case atStart => exact ⟨0, Nat.zero_le _, rfl, HLT.out, HI.out⟩
    case round =>
      clear HLT HI
      obtain ⟨k, hkk, rfl, ho, q0, q1, hbr⟩ := hrel
      obtain ⟨Ao, co, rfl⟩ := ho.form
      have cq : wr.cell? ⟨w.heap.size, 1, none⟩ = some (.slice B s.sn.length b) := q0.cell 1
      by_cases hlt : k < s.sn.length
      · obtain ⟨y, hyk⟩ := some_of_lt hlt
        obtain ⟨b', off, es, e0, _, hbb, _, ⟨v2, rfl, hgd, hr⟩, hcc⟩ := (RSnsL.loc.below (OSns.l h2) hbr hhi).at_ hyk
        subst e0
        obtain ⟨A2, c2, rfl⟩ := RSl.form hr
        have HY := Lib.hid hyk
        have HO := Lib.hid ho
        clear hcc hyk ho hr
        go_wp2_with fail
        obtain ⟨wo, hwo⟩ : ∃ wo, wo = wr := ⟨_, rfl⟩
        subst hwo
        go_loopw [8, 9] (fun gg jj wr => ∃ (j : Nat) (q : Bool), j ≤ LL.length ∧ jj = .int .i64 j ∧ gg = .bool q ∧ q = ((LL.take j).any fun h => h.s == y.no) ∧ Below wo.heap.size wo wr) (fun _ jj _ => LL.length - (intOf jj).toNat)
        case atStart => exact ⟨0, false, Nat.zero_le _, rfl, rfl, rfl, Below.refl _ _⟩
        case round =>
          obtain ⟨j, q, hj, rfl, rfl, hq, hbo⟩ := hrel
          have HQ := Lib.hid hq; clear hq
          have hb2 := below_below hbr hbo
          have cq' := cell_keep hbo cq
          obtain ⟨b2, off2, es, e0, _, _, _, ⟨v2, rfl, hgd2, hr⟩, hcc⟩ := (RSnsL.loc.below (OSns.l h2) hb2 hhi).at_ HY.out
          simp only [Option.some.injEq, Addr.mk.injEq, and_true] at e0
          obtain ⟨rfl, rfl⟩ := e0
          obtain ⟨A3, c3, rfl⟩ := RSl.form hr
          have hc0 : wr.cell? ⟨b', off + k * 2, none⟩ = some (.int .i64 y.no) := by simpa using hcc 0 _ rfl
          have hc1' : wr.cell? ⟨b', off + k * 2 + 1, none⟩ = some (.slice A3 y.all.length c3) := by simpa using hcc 1 _ rfl
          clear hcc hr
          by_cases hjl : j < LL.length
          · obtain ⟨z, hzj⟩ := some_of_lt hjl
            obtain ⟨b3, off3, es, e0, _, _, _, ⟨rfl, hgz⟩, hcz⟩ := (RHdsL.loc.below hdr hb2 hhi).at_ hzj
            subst e0
            have hz1 : wr.cell? ⟨b3, off3 + j * 2 + 1, none⟩ = some (.int .i64 z.s) := by simpa using hcz 1 _ rfl
            have hstep := any_take (p := fun h : Hd => h.s == y.no) hzj
            have HS := Lib.hid hstep
            clear hcz hzj hstep hc1'
            cases q
            · go_wp2_with fail
              have past0 := past_cell cq'
              have past1 := past_cell hc0
              have past2 := past_cell hz1
              refine region_pastT 15 [0, 1, 2, 3, 4, 5, 6, 7, 8, 9, 10, 11, 12, 13, 14] [] (by kernel_rfl) (by kernel_rfl) (by kernel_rfl) ?_
              simp only [pick, List.map, List.getD_cons_zero, List.getD_cons_succ]
              repeat (go_big_quiet_step (fail))
              refine wpQuiet_nil ?_
              clear past0 past1 past2
              apply Exists.intro
              refine past_end ?_
              intro wz hz xx hxx hF
              dsimp only [allF] at hF
              try rw [hxx] at hF
              clear hxx xx
              simp only [List.drop]
              clear hF
              go_wp2_with fail
              go_roundw
              case rel => exact ⟨j + 1, _, by omega, by go_num, rfl, by rw [HS.out, ← HQ.out]; rfl, below_below hbo hz⟩
              case measure => simp [intOf]; omega
            · go_wp2_with fail
              have past0 := past_cell cq'
              have past1 := past_cell hc0
              have past2 := past_cell hz1
              refine region_pastT 15 [0, 1, 2, 3, 4, 5, 6, 7, 8, 9, 10, 11, 12, 13, 14] [] (by kernel_rfl) (by kernel_rfl) (by kernel_rfl) ?_
              simp only [pick, List.map, List.getD_cons_zero, List.getD_cons_succ]
              repeat (go_big_quiet_step (fail))
              refine wpQuiet_nil ?_
              clear past0 past1 past2
              apply Exists.intro
              refine past_end ?_
              intro wz hz xx hxx hF
              dsimp only [allF] at hF
              try rw [hxx] at hF
              clear hxx xx
              simp only [List.drop]
              clear hF
              go_wp2_with fail
              go_roundw
              case rel => exact ⟨j + 1, _, by omega, by go_num, rfl, by rw [HS.out, ← HQ.out]; rfl, below_below hbo hz⟩
              case measure => simp [intOf]; omega
          · obtain rfl : j = LL.length := by omega
            have hqe := HQ.out
            rw [List.take_length] at hqe
            have HQE := Lib.hid hqe
            have zo := hbo.size
            have ho2 := HO.out.below OSn.tloc hbo
            have q02 := blk_keep q0 hbo
            have q12 := blk_keep q1 hbo
            clear hqe
            cases q
            · have hp : (LL.any fun h => h.s == y.no) = false := HQE.out.symm
              have hfk := filter_keep (p := fun x : Sn => LL.any fun h => h.s == x.no) HY.out hp
              have HF := Lib.hid hfk
              obtain ⟨m, m', es, l1, l2, l3, hel, ⟨v5, rfl, hgd5, hrow⟩, hcell, -⟩ : ∃ m m' es, lo ≤ m ∧ m ≤ m' ∧ m' ≤ hi ∧ es.length = 2 ∧ OSn wr m m' y es ∧ (∀ j u, es[j]? = some u → wr.cell? ⟨b', off + k * 2 + j, none⟩ = some u) ∧ True := by
                have hsn := OSns.tloc.below h2 hb2 hhi
                obtain ⟨g, c9, e9, g1, g2, g3, ds, hds⟩ := ORow.some_ hsn (by omega)
                simp only [Value.slice.injEq, Option.some.injEq, Addr.mk.injEq, and_true] at e9
                obtain ⟨⟨rfl, rfl⟩, -, rfl⟩ := e9
                obtain ⟨m, m', es, l1, l2, l3, hel, hE, hcell, -⟩ := ORow.at_ OSn.tloc (by decide) hsn HY.out
                exact ⟨m, m', es, l1, l2, l3, hel, hE, fun j u hu => by rw [Nat.zero_add]; exact hcell j u hu, trivial⟩
              obtain ⟨A6, c6, rfl⟩ := ORow.form hrow
              have hd1 := hcell 1 _ rfl
              rw [hc1'] at hd1
              simp only [Option.some.injEq, Value.slice.injEq, true_and] at hd1
              obtain ⟨rfl, rfl⟩ := hd1
              have hln : ((s.sn.take k).filter fun x => !(LL.any fun h => h.s == x.no)).length ≤ s.sn.length := Nat.le_trans (List.length_filter_le _ _) (by rw [List.length_take]; omega)
              have hy3 : OSn wr lo wr.heap.size y [.int .i64 y.no, .slice A3 y.all.length c3] :=
                OSn.tloc.wide (⟨_, rfl, hgd5, hrow⟩ : OSn wr m m' y [.int .i64 y.no, .slice A3 y.all.length c3]) l1 (by have := hb2.size; omega)
              have HO3 := Lib.hid ho2; have HY3 := Lib.hid hy3
              have hb4 := Lib.hid hb2
              have q03 := Lib.hid (And.intro q02 q12)
              clear ho2 hy3 hcell hrow q02 q12 hfk HO
              obtain ⟨M, hM⟩ : ∃ M, M = ((s.sn.take k).filter fun x => !(LL.any fun h => h.s == x.no)) := ⟨_, rfl⟩
              rw [← hM] at HO3 HF hln ⊢
              clear hM
              go_wp2_with (at_builtin; refine stopper ?_)
              refine ⟨?_, trivial⟩
              refine app_deep OSn.tloc (by decide) rfl (.tmp 57) (.tmp 63) 24 rfl elem_sn y rfl HO3.out rfl rfl (by simp [Value.oneCell']) HY3.out (by omega) (by have := hb4.out.size; omega) ?_
              intro v8 w8 o8 ch8 at8
              obtain ⟨A8, c8, rfl⟩ := o8.form
              simp only [List.length_append, List.length_cons, List.length_nil, Nat.zero_add] at o8
              go_wp2_with fail
              go_roundw
              case rel =>
                have hbk : ∀ b, (Value.slice Ao M.length co).ownBlock = some b → w.heap.size ≤ b ∧ ∃ ds, Blk wr b 52 ds := fun b hb => ⟨(HO3.out.at_ hb).1, HO3.out.blk hb⟩
                refine ⟨k + 1, by omega, by go_num, by rw [HF.out]; exact o8, blk_chg q03.out.1 ch8 fun hs => ?_, blk_chg q03.out.2 ch8 fun hs => ?_, hb4.out.trans (ch8.below hb4.out.size fun i hi hs => by have := (hbk i hs).1; omega)⟩
                · obtain ⟨_, ds, hd⟩ := hbk _ hs
                  exact absurd (blk_type q03.out.1 hd) (by decide)
                · obtain ⟨_, ds, hd⟩ := hbk _ hs
                  exact absurd (blk_type q03.out.2 hd) (by decide)
              case measure => simp [intOf]; omega
            · have hp : (LL.any fun h => h.s == y.no) = true := HQE.out.symm
              have hfk := filter_drop (p := fun x : Sn => LL.any fun h => h.s == x.no) HY.out hp
              have HF := Lib.hid hfk
              have HO2 := Lib.hid (And.intro ho2 (And.intro q02 q12))
              clear hfk hp ho2 q02 q12
              go_wp2_with fail
              go_roundw
              case rel => exact ⟨k + 1, by omega, by go_num, by rw [HF.out]; exact HO2.out.1, HO2.out.2.1, HO2.out.2.2, hb2⟩
              case measure => simp [intOf]; omega
      · obtain rfl : k = s.sn.length := by omega
        rw [List.take_length] at ho
        have cq0 := q0.cell
        have fq0 := q0.frozen
        have cq1 := q1.cell
        have fq1 := q1.frozen
        have HO := Lib.hid ho
        clear ho
        go_wp2_with fail
        obtain ⟨wz, hwz⟩ : ∃ wz, wz = ((((wr.setCell ⟨w.heap.size, 1, none⟩ (.slice Ao (s.sn.filter fun x => !(LL.any fun h => h.s == x.no)).length co)).setCell ⟨w.heap.size + 1, 0, none⟩ (.slice A s.pk.length a)).setCell ⟨w.heap.size + 1, 1, none⟩ (.slice Ao (s.sn.filter fun x => !(LL.any fun h => h.s == x.no)).length co)).setCell ⟨w.heap.size + 1, 2, none⟩ (.slice C nn c)) := ⟨_, rfl⟩
        have hcz : Chg (fun b => b = w.heap.size ∨ b = w.heap.size + 1) wr wz := by
          rw [hwz]
          exact ((((Chg.refl _ wr).setCell (.inl (.inl rfl)) _).setCell (.inl (.inr rfl)) _).setCell (.inl (.inr rfl)) _).setCell (.inl (.inr rfl)) _
        have hbz : Below w.heap.size w wz := hbr.trans (hcz.below hbr.size fun i hi hs => by rcases hs with hs | hs <;> omega)
        have hoz : OwnD OSn 2 52 wz lo w.heap.size (.slice Ao (s.sn.filter fun x => !(LL.any fun h => h.s == x.no)).length co) (s.sn.filter fun x => !(LL.any fun h => h.s == x.no)) := by
          refine HO.out.chg OSn.tloc hcz (fun b hb hs => ?_) (fun b _ ht hs => ?_)
          · obtain ⟨ds, hd⟩ := HO.out.blk hb
            rcases hs with rfl | rfl
            · exact absurd (blk_type q0 hd) (by decide)
            · exact absurd (blk_type q1 hd) (by decide)
          · rcases hs with rfl | rfl
            · exact typed_ne q0 (by decide) ht
            · exact typed_ne q1 (by decide) ht
        refine bodyPost_ret (v := .agg #[.slice A s.pk.length a, .slice Ao (s.sn.filter fun x => !(LL.any fun h => h.s == x.no)).length co, .slice C nn c]) (by simp [results, Try.results20, go_sem, cq1]) rfl ?_
        rw [← hwz, ← HLL.out]
        have zb := hbz.size
        exact ⟨_, _, _, rfl, ⟨tPk.wide (tPk.below (OPks.T h1) hbz hhi) (Nat.le_refl _) (by omega), OwnD.sl hoz (by omega), by
          have := tHd.wide (lo' := lo) (hi' := wz.heap.size) (tHd.below htk hbz hhi) (Nat.le_refl _) (by omega)
          have e : (s.lg.take nn).length = nn := by rw [List.length_take]; omega
          exact this⟩, hbz⟩
  · rw [lieS_2n hk hin]
    have hbool : (decide (0 ≤ l.n) && decide (l.n ≤ (s.lg.length : Int))) = false := by
      rw [Bool.and_eq_false_iff]
      by_cases h0 : 0 ≤ l.n
      · exact .inr (decide_eq_false fun h => hin ⟨h0, h⟩)
      · exact .inl (decide_eq_false h0)
    have HBO := Lib.hid hbool
    clear hbool hin
    go_enter Try.func20, Try.ntmps20
    go_wp2_with fail
    have hbw0 : Below w.heap.size w ((w.alloc (.cells #[.slice A s.pk.length a, .slice B s.sn.length b, .slice C s.lg.length c] 27)).alloc (.cells #[.slice none 0 0, .slice none 0 0, .slice none 0 0] 27)) := below_alloc' (below_alloc _ _) _
    have k0 : Blk ((w.alloc (.cells #[.slice A s.pk.length a, .slice B s.sn.length b, .slice C s.lg.length c] 27)).alloc (.cells #[.slice none 0 0, .slice none 0 0, .slice none 0 0] 27)) (w.heap.size) 27 #[.slice A s.pk.length a, .slice B s.sn.length b, .slice C s.lg.length c] := by
      have hk := blk_alloc (Blk.new w 27 #[.slice A s.pk.length a, .slice B s.sn.length b, .slice C s.lg.length c]) (.cells #[.slice none 0 0, .slice none 0 0, .slice none 0 0] 27)
      exact hk
    have k1 : Blk ((w.alloc (.cells #[.slice A s.pk.length a, .slice B s.sn.length b, .slice C s.lg.length c] 27)).alloc (.cells #[.slice none 0 0, .slice none 0 0, .slice none 0 0] 27)) (w.heap.size + 1) 27 #[.slice none 0 0, .slice none 0 0, .slice none 0 0] := by
      have hk := Blk.new (w.alloc (.cells #[.slice A s.pk.length a, .slice B s.sn.length b, .slice C s.lg.length c] 27)) 27 #[.slice none 0 0, .slice none 0 0, .slice none 0 0]
      simp only [World.size_alloc] at hk
      exact hk
    have hsw0 : w.heap.size + 2 ≤ ((w.alloc (.cells #[.slice A s.pk.length a, .slice B s.sn.length b, .slice C s.lg.length c] 27)).alloc (.cells #[.slice none 0 0, .slice none 0 0, .slice none 0 0] 27)).heap.size := by simp only [World.size_alloc]; omega
    generalize ((w.alloc (.cells #[.slice A s.pk.length a, .slice B s.sn.length b, .slice C s.lg.length c] 27)).alloc (.cells #[.slice none 0 0, .slice none 0 0, .slice none 0 0] 27)) = w0 at *
    have ck0 := k0.cell
    have fk0 := k0.frozen
    have ck1 := k1.cell
    have fk1 := k1.frozen
    refine (l6In_any l.n 0 s.lg.length w0).mono ?_
    rintro e w1 ⟨rfl, rfl⟩
    rw [HBO.out]
    go_wp2_with fail
    refine bodyPost_ret (v := .agg #[.slice A s.pk.length a, .slice B s.sn.length b, .slice C s.lg.length c]) (by simp [results, Try.results20, go_sem, ck1]) rfl ⟨_, _, _, rfl, ?_, ((hbw0.setCell (by first | omega | (dsimp only; omega)) _).setCell (by first | omega | (dsimp only; omega)) _).setCell (by first | omega | (dsimp only; omega)) _⟩
    have hr : TSto w lo hi s (.slice A s.pk.length a) (.slice B s.sn.length b) (.slice C s.lg.length c) := ⟨OPks.T h1, OSns.T h2, OHds.T h3⟩
    refine (hr.below (B := w.heap.size) ?_ hhi).wide (Nat.le_refl _) ?_
    · exact ((hbw0.setCell (by first | omega | (dsimp only; omega)) _).setCell (by first | omega | (dsimp only; omega)) _).setCell (by first | omega | (dsimp only; omega)) _
    · simp only [World.size_setCell]
      omega
end Go.Proofs.Ytpdkgpbfmpekgaa




/- What a house shows, by the reference: no lie, one that rolls back, one that forks the log. -/
namespace Go.Proofs.Ytpdkgpbfmpekgaa
open Go.RowKit

theorem RStoL.go {w w' : World} {lo hi lo' hi' : Nat} {s : Sto} {va vb vc : Value} (h : RStoL w lo hi s va vb vc) (hs : ∀ b, lo ≤ b → b < hi → w'.heap[b]? = w.heap[b]?) (h1 : lo' ≤ lo) (h2 : hi ≤ hi') : RStoL w' lo' hi' s va vb vc :=
  ⟨RPksL.loc.go hs h1 h2 h.pk, RSnsL.loc.go hs h1 h2 h.sn, RHdsL.loc.go hs h1 h2 h.lg⟩
theorem RStoL.form {w : World} {lo hi : Nat} {s : Sto} {va vb vc : Value} (h : RStoL w lo hi s va vb vc) : ∃ A a B b C c, va = .slice A s.pk.length a ∧ vb = .slice B s.sn.length b ∧ vc = .slice C s.lg.length c := by
  obtain ⟨A, a, rfl⟩ := RSl.form h.pk
  obtain ⟨B, b, rfl⟩ := RSl.form h.sn
  obtain ⟨C, c, rfl⟩ := RSl.form h.lg
  exact ⟨A, a, B, b, C, c, rfl, rfl, rfl⟩
/-- Three cells of a block above stored: what lies below stays. -/
theorem set3_old (w : World) (g : Nat) (u1 u2 u3 : Value) (b : Nat) (hb : b ≠ g) : (((w.setCell ⟨g, 0, none⟩ u1).setCell ⟨g, 1, none⟩ u2).setCell ⟨g, 2, none⟩ u3).heap[b]? = w.heap[b]? := by
  rw [Below.heap_setCell _ _ _ _ hb, Below.heap_setCell _ _ _ _ hb, Below.heap_setCell _ _ _ _ hb]
theorem blk_in {B : Nat} {w w' : World} {g : Nat} {t : TypeId} {cs : Array Value} (h : Blk w g t cs) (hb : Below B w w') (hg : g < B) : Blk w' g t cs := (hb.block g hg).trans h
set_option maxRecDepth 8000 in
set_option maxHeartbeats 4000000 in
theorem lsp5_any (s : Sto) (lk ln lm : Int) (lb : ByteArray) (n1 : ¬ lk = 1) (n2 : ¬ lk = 2) (n3 : ¬ lk = 3) (n4 : ¬ lk = 4) (va vb vc : Value) (w : World) (lo hi : Nat) (h : RStoL w lo hi s va vb vc) (hhi : hi ≤ w.heap.size) (hl : bSto s ≤ 1099511627) :
    Calls Try.prog 8 #[.agg #[va, vb, vc], .agg (LieC ⟨lk, ln, lm, lb⟩)] w (NewStL w w.heap.size s) := by
  have t1 : (lk == 1) = false := beq_eq_false_iff_ne.2 n1
  have t2 : (lk == 2) = false := beq_eq_false_iff_ne.2 n2
  have t3 : (lk == 3) = false := beq_eq_false_iff_ne.2 n3
  have t4 : (lk == 4) = false := beq_eq_false_iff_ne.2 n4
  clear n1 n2 n3 n4
  obtain ⟨C, c, rfl⟩ := RSl.form h.lg
  obtain ⟨A, a, rfl⟩ := RSl.form h.pk
  obtain ⟨B, b, rfl⟩ := RSl.form h.sn
  go_enter Try.func8, Try.ntmps8
  go_wp2_with fail
  have hbw0 : Below w.heap.size w (((w.alloc (.cells #[.slice A s.pk.length a, .slice B s.sn.length b, .slice C s.lg.length c] 27)).alloc (.cells #[.int .i64 lk, .int .i64 ln, .int .i64 lm, .string lb] 29)).alloc (.cells #[.slice none 0 0, .slice none 0 0, .slice none 0 0] 27)) := below_alloc' (below_alloc' (below_alloc _ _) _) _
  have k0 : Blk (((w.alloc (.cells #[.slice A s.pk.length a, .slice B s.sn.length b, .slice C s.lg.length c] 27)).alloc (.cells #[.int .i64 lk, .int .i64 ln, .int .i64 lm, .string lb] 29)).alloc (.cells #[.slice none 0 0, .slice none 0 0, .slice none 0 0] 27)) (w.heap.size) 27 #[.slice A s.pk.length a, .slice B s.sn.length b, .slice C s.lg.length c] := by
    have hk := blk_alloc (blk_alloc (Blk.new w 27 #[.slice A s.pk.length a, .slice B s.sn.length b, .slice C s.lg.length c]) (.cells #[.int .i64 lk, .int .i64 ln, .int .i64 lm, .string lb] 29)) (.cells #[.slice none 0 0, .slice none 0 0, .slice none 0 0] 27)
    exact hk
  have k1 : Blk (((w.alloc (.cells #[.slice A s.pk.length a, .slice B s.sn.length b, .slice C s.lg.length c] 27)).alloc (.cells #[.int .i64 lk, .int .i64 ln, .int .i64 lm, .string lb] 29)).alloc (.cells #[.slice none 0 0, .slice none 0 0, .slice none 0 0] 27)) (w.heap.size + 1) 29 #[.int .i64 lk, .int .i64 ln, .int .i64 lm, .string lb] := by
    have hk := blk_alloc (Blk.new (w.alloc (.cells #[.slice A s.pk.length a, .slice B s.sn.length b, .slice C s.lg.length c] 27)) 29 #[.int .i64 lk, .int .i64 ln, .int .i64 lm, .string lb]) (.cells #[.slice none 0 0, .slice none 0 0, .slice none 0 0] 27)
    simp only [World.size_alloc] at hk
    exact hk
  have k2 : Blk (((w.alloc (.cells #[.slice A s.pk.length a, .slice B s.sn.length b, .slice C s.lg.length c] 27)).alloc (.cells #[.int .i64 lk, .int .i64 ln, .int .i64 lm, .string lb] 29)).alloc (.cells #[.slice none 0 0, .slice none 0 0, .slice none 0 0] 27)) (w.heap.size + 1 + 1) 27 #[.slice none 0 0, .slice none 0 0, .slice none 0 0] := by
    have hk := Blk.new ((w.alloc (.cells #[.slice A s.pk.length a, .slice B s.sn.length b, .slice C s.lg.length c] 27)).alloc (.cells #[.int .i64 lk, .int .i64 ln, .int .i64 lm, .string lb] 29)) 27 #[.slice none 0 0, .slice none 0 0, .slice none 0 0]
    simp only [World.size_alloc] at hk
    exact hk
  have hsw0 : w.heap.size + 3 ≤ (((w.alloc (.cells #[.slice A s.pk.length a, .slice B s.sn.length b, .slice C s.lg.length c] 27)).alloc (.cells #[.int .i64 lk, .int .i64 ln, .int .i64 lm, .string lb] 29)).alloc (.cells #[.slice none 0 0, .slice none 0 0, .slice none 0 0] 27)).heap.size := by simp only [World.size_alloc]; omega
  generalize (((w.alloc (.cells #[.slice A s.pk.length a, .slice B s.sn.length b, .slice C s.lg.length c] 27)).alloc (.cells #[.int .i64 lk, .int .i64 ln, .int .i64 lm, .string lb] 29)).alloc (.cells #[.slice none 0 0, .slice none 0 0, .slice none 0 0] 27)) = w0 at *
  have ck0 := k0.cell
  have fk0 := k0.frozen
  have ck1 := k1.cell
  have fk1 := k1.frozen
  have ck2 := k2.cell
  have fk2 := k2.frozen
  refine (l21Copy_any s _ _ _ w0 lo hi (h.below hbw0 hhi) (Nat.le_trans hhi hbw0.size) hl).mono ?_
  rintro e w1 ⟨v1, v2, v3, rfl, o1, b1⟩
  obtain ⟨A1, a1, rfl⟩ := ORow.form o1.pk
  obtain ⟨B1, b1', rfl⟩ := ORow.form o1.sn
  obtain ⟨C1, c1, rfl⟩ := ORow.form o1.lg
  replace k1 := blk_keep k1 b1
  replace ck1 := k1.cell
  replace fk1 := k1.frozen
  replace k2 := blk_keep k2 b1
  replace ck2 := k2.cell
  replace fk2 := k2.frozen
  replace hbw0 := below_below hbw0 b1
  have z1 := b1.size
  clear k0 ck0 fk0
  have hal := below_alloc w1 (.cells #[.slice A1 s.pk.length a1, .slice B1 s.sn.length b1', .slice C1 s.lg.length c1] 27)
  have ck1' := (blk_keep k1 hal).cell
  have k23 := blk_keep k2 hal
  have ck2' := k23.cell
  have fk2' := k23.frozen
  have hb3 := Lib.hid (below_below hbw0 hal)
  have o3 : TSto (w1.alloc (.cells #[.slice A1 s.pk.length a1, .slice B1 s.sn.length b1', .slice C1 s.lg.length c1] 27)) w0.heap.size w1.heap.size s _ _ _ := o1.t.below hal (Nat.le_refl _)
  have O3 := Lib.hid o3
  have z3 := Lib.hid hal.size
  clear hal o1 o3 k23 b1
  go_wp2_with fail
  refine bodyPost_ret (v := .agg #[.slice A1 s.pk.length a1, .slice B1 s.sn.length b1', .slice C1 s.lg.length c1]) (by simp [results, Try.results8, go_sem, ck2']) rfl ⟨_, _, _, rfl, ?_, ?_⟩
  · refine O3.out.go (fun b hb _ => set3_old _ _ _ _ _ b (by omega)) (by omega) ?_
    simp only [World.size_setCell]
    exact z3.out
  · exact ((hb3.out.setCell (by dsimp only; omega) _).setCell (by dsimp only; omega) _).setCell (by dsimp only; omega) _
set_option maxRecDepth 8000 in
set_option maxHeartbeats 4000000 in
theorem lsp2_any (s : Sto) (ln lm : Int) (lb : ByteArray) (va vb vc : Value) (w : World) (lo hi : Nat) (h : RStoL w lo hi s va vb vc) (hhi : hi ≤ w.heap.size) (hl : bSto s ≤ 1099511627) :
    Calls Try.prog 8 #[.agg #[va, vb, vc], .agg (LieC ⟨2, ln, lm, lb⟩)] w (NewStL w w.heap.size (lieS s ⟨2, ln, lm, lb⟩)) := by
  obtain ⟨C, c, rfl⟩ := RSl.form h.lg
  obtain ⟨A, a, rfl⟩ := RSl.form h.pk
  obtain ⟨B, b, rfl⟩ := RSl.form h.sn
  go_enter Try.func8, Try.ntmps8
  go_wp2_with fail
  have hbw0 : Below w.heap.size w (((w.alloc (.cells #[.slice A s.pk.length a, .slice B s.sn.length b, .slice C s.lg.length c] 27)).alloc (.cells #[.int .i64 2, .int .i64 ln, .int .i64 lm, .string lb] 29)).alloc (.cells #[.slice none 0 0, .slice none 0 0, .slice none 0 0] 27)) := below_alloc' (below_alloc' (below_alloc _ _) _) _
  have k0 : Blk (((w.alloc (.cells #[.slice A s.pk.length a, .slice B s.sn.length b, .slice C s.lg.length c] 27)).alloc (.cells #[.int .i64 2, .int .i64 ln, .int .i64 lm, .string lb] 29)).alloc (.cells #[.slice none 0 0, .slice none 0 0, .slice none 0 0] 27)) (w.heap.size) 27 #[.slice A s.pk.length a, .slice B s.sn.length b, .slice C s.lg.length c] := by
    have hk := blk_alloc (blk_alloc (Blk.new w 27 #[.slice A s.pk.length a, .slice B s.sn.length b, .slice C s.lg.length c]) (.cells #[.int .i64 2, .int .i64 ln, .int .i64 lm, .string lb] 29)) (.cells #[.slice none 0 0, .slice none 0 0, .slice none 0 0] 27)
    exact hk
  have k1 : Blk (((w.alloc (.cells #[.slice A s.pk.length a, .slice B s.sn.length b, .slice C s.lg.length c] 27)).alloc (.cells #[.int .i64 2, .int .i64 ln, .int .i64 lm, .string lb] 29)).alloc (.cells #[.slice none 0 0, .slice none 0 0, .slice none 0 0] 27)) (w.heap.size + 1) 29 #[.int .i64 2, .int .i64 ln, .int .i64 lm, .string lb] := by
    have hk := blk_alloc (Blk.new (w.alloc (.cells #[.slice A s.pk.length a, .slice B s.sn.length b, .slice C s.lg.length c] 27)) 29 #[.int .i64 2, .int .i64 ln, .int .i64 lm, .string lb]) (.cells #[.slice none 0 0, .slice none 0 0, .slice none 0 0] 27)
    simp only [World.size_alloc] at hk
    exact hk
  have k2 : Blk (((w.alloc (.cells #[.slice A s.pk.length a, .slice B s.sn.length b, .slice C s.lg.length c] 27)).alloc (.cells #[.int .i64 2, .int .i64 ln, .int .i64 lm, .string lb] 29)).alloc (.cells #[.slice none 0 0, .slice none 0 0, .slice none 0 0] 27)) (w.heap.size + 1 + 1) 27 #[.slice none 0 0, .slice none 0 0, .slice none 0 0] := by
    have hk := Blk.new ((w.alloc (.cells #[.slice A s.pk.length a, .slice B s.sn.length b, .slice C s.lg.length c] 27)).alloc (.cells #[.int .i64 2, .int .i64 ln, .int .i64 lm, .string lb] 29)) 27 #[.slice none 0 0, .slice none 0 0, .slice none 0 0]
    simp only [World.size_alloc] at hk
    exact hk
  have hsw0 : w.heap.size + 3 ≤ (((w.alloc (.cells #[.slice A s.pk.length a, .slice B s.sn.length b, .slice C s.lg.length c] 27)).alloc (.cells #[.int .i64 2, .int .i64 ln, .int .i64 lm, .string lb] 29)).alloc (.cells #[.slice none 0 0, .slice none 0 0, .slice none 0 0] 27)).heap.size := by simp only [World.size_alloc]; omega
  generalize (((w.alloc (.cells #[.slice A s.pk.length a, .slice B s.sn.length b, .slice C s.lg.length c] 27)).alloc (.cells #[.int .i64 2, .int .i64 ln, .int .i64 lm, .string lb] 29)).alloc (.cells #[.slice none 0 0, .slice none 0 0, .slice none 0 0] 27)) = w0 at *
  have ck0 := k0.cell
  have fk0 := k0.frozen
  have ck1 := k1.cell
  have fk1 := k1.frozen
  have ck2 := k2.cell
  have fk2 := k2.frozen
  refine (l21Copy_any s _ _ _ w0 lo hi (h.below hbw0 hhi) (Nat.le_trans hhi hbw0.size) hl).mono ?_
  rintro e w1 ⟨v1, v2, v3, rfl, o1, b1⟩
  obtain ⟨A1, a1, rfl⟩ := ORow.form o1.pk
  obtain ⟨B1, b1', rfl⟩ := ORow.form o1.sn
  obtain ⟨C1, c1, rfl⟩ := ORow.form o1.lg
  replace k1 := blk_keep k1 b1
  replace ck1 := k1.cell
  replace fk1 := k1.frozen
  replace k2 := blk_keep k2 b1
  replace ck2 := k2.cell
  replace fk2 := k2.frozen
  replace hbw0 := below_below hbw0 b1
  have z1 := b1.size
  clear k0 ck0 fk0
  have hal := below_alloc w1 (.cells #[.slice A1 s.pk.length a1, .slice B1 s.sn.length b1', .slice C1 s.lg.length c1] 27)
  have ck1' := (blk_keep k1 hal).cell
  go_wp2_with fail
  clear hal ck1'
  have hbw3 : Below w1.heap.size w1 (w1.alloc (.cells #[.slice A1 s.pk.length a1, .slice B1 s.sn.length b1', .slice C1 s.lg.length c1] 27)) := below_alloc _ _
  have m0 : Blk (w1.alloc (.cells #[.slice A1 s.pk.length a1, .slice B1 s.sn.length b1', .slice C1 s.lg.length c1] 27)) (w1.heap.size) 27 #[.slice A1 s.pk.length a1, .slice B1 s.sn.length b1', .slice C1 s.lg.length c1] := by
    have hk := Blk.new w1 27 #[.slice A1 s.pk.length a1, .slice B1 s.sn.length b1', .slice C1 s.lg.length c1]
    exact hk
  have hsw3 : w1.heap.size + 1 ≤ (w1.alloc (.cells #[.slice A1 s.pk.length a1, .slice B1 s.sn.length b1', .slice C1 s.lg.length c1] 27)).heap.size := by simp only [World.size_alloc]; omega
  generalize (w1.alloc (.cells #[.slice A1 s.pk.length a1, .slice B1 s.sn.length b1', .slice C1 s.lg.length c1] 27)) = w3 at *
  have cm0 := m0.cell
  have fm0 := m0.frozen
  replace k1 := blk_keep k1 hbw3
  replace ck1 := k1.cell
  replace fk1 := k1.frozen
  replace k2 := blk_keep k2 hbw3
  replace ck2 := k2.cell
  replace fk2 := k2.frozen
  have hb3 := below_below hbw0 hbw3
  have o3 : OSto w3 w0.heap.size w1.heap.size s _ _ _ := ⟨OPks.tloc.below o1.pk hbw3 (Nat.le_refl _), OSns.tloc.below o1.sn hbw3 (Nat.le_refl _), OHds.tloc.below o1.lg hbw3 (Nat.le_refl _)⟩
  have z3 := hbw3.size
  clear o1 hbw0 hbw3 b1
  refine (l22Back_any s ⟨2, ln, lm, lb⟩ rfl _ _ _ w3 w0.heap.size w1.heap.size o3 (by omega) hl).mono ?_
  rintro e w5 ⟨ua, ub, uc, rfl, r5, b5⟩
  have k5 := blk_keep m0 b5
  have k25 := blk_keep k2 b5
  have hb5 := below_below hb3 b5
  have z5 := b5.size
  clear k1 ck1 fk1 k2 ck2 fk2 m0 cm0 fm0 o3 hb3 b5
  have ck5 := k5.cell
  have k25c := k25.cell
  have k25f := k25.frozen
  obtain ⟨A5, a5, B5, b5, C5, d5, rfl, rfl, rfl⟩ := r5.form
  have HR5 := Lib.hid r5
  have HB5 := Lib.hid hb5
  clear r5 hb5
  go_wp2_with fail
  refine bodyPost_ret (v := .agg #[.slice A5 (lieS s ⟨2, ln, lm, lb⟩).pk.length a5, .slice B5 (lieS s ⟨2, ln, lm, lb⟩).sn.length b5, .slice C5 (lieS s ⟨2, ln, lm, lb⟩).lg.length d5]) (by simp [results, Try.results8, go_sem, k25c]) rfl ⟨_, _, _, rfl, ?_, ?_⟩
  · refine HR5.out.go (fun b hb _ => set3_old _ _ _ _ _ b (by omega)) (by omega) ?_
    simp only [World.size_setCell]
    omega
  · exact ((HB5.out.setCell (by dsimp only; omega) _).setCell (by dsimp only; omega) _).setCell (by dsimp only; omega) _
set_option maxRecDepth 8000 in
set_option maxHeartbeats 4000000 in
theorem lsp4_any (s : Sto) (ln lm : Int) (lb : ByteArray) (va vb vc : Value) (w : World) (lo hi : Nat) (h : RStoL w lo hi s va vb vc) (hhi : hi ≤ w.heap.size) (hl : bSto s ≤ 1099511627) :
    Calls Try.prog 8 #[.agg #[va, vb, vc], .agg (LieC ⟨4, ln, lm, lb⟩)] w (NewStL w w.heap.size (lieS s ⟨4, ln, lm, lb⟩)) := by
  obtain ⟨C, c, rfl⟩ := RSl.form h.lg
  obtain ⟨_, hc1, hc2⟩ := h.lg.len_
  unfold maxLen at hc2
  have hwr : IntKind.i64.wrap ((s.lg.length : Int) - 1) = (s.lg.length : Int) - 1 := IntWalk.i64_in _ (by omega)
  by_cases hin : 0 ≤ ln ∧ ln < (s.lg.length : Int)
  · rw [lieS_4 (l := ⟨4, ln, lm, lb⟩) rfl hin]
    have hbool : (decide (0 ≤ ln) && decide (ln ≤ (s.lg.length : Int) - 1)) = true := by rw [Bool.and_eq_true]; exact ⟨decide_eq_true hin.1, decide_eq_true (by omega)⟩
    have HBO := Lib.hid hbool
    obtain ⟨nn, rfl⟩ := Int.eq_ofNat_of_zero_le hin.1
    obtain ⟨y, hyk⟩ := some_of_lt (l := s.lg) (k := nn) (by omega)
    have hset : setAt s.lg ((nn : Nat) : Int).toNat forkH = s.lg.set nn (forkH y) := by
      have : ((nn : Nat) : Int).toNat = nn := by omega
      rw [this, setAt_some hyk]
    dsimp only
    rw [hset]
    have hnl : nn < s.lg.length := by omega
    have HY := Lib.hid hyk
    clear hbool hin hset hyk
    obtain ⟨A, a, rfl⟩ := RSl.form h.pk
    obtain ⟨B, b, rfl⟩ := RSl.form h.sn
    go_enter Try.func8, Try.ntmps8
    go_wp2_with fail
    have hbw0 : Below w.heap.size w (((w.alloc (.cells #[.slice A s.pk.length a, .slice B s.sn.length b, .slice C s.lg.length c] 27)).alloc (.cells #[.int .i64 4, .int .i64 ((nn : Nat) : Int), .int .i64 lm, .string lb] 29)).alloc (.cells #[.slice none 0 0, .slice none 0 0, .slice none 0 0] 27)) := below_alloc' (below_alloc' (below_alloc _ _) _) _
    have k0 : Blk (((w.alloc (.cells #[.slice A s.pk.length a, .slice B s.sn.length b, .slice C s.lg.length c] 27)).alloc (.cells #[.int .i64 4, .int .i64 ((nn : Nat) : Int), .int .i64 lm, .string lb] 29)).alloc (.cells #[.slice none 0 0, .slice none 0 0, .slice none 0 0] 27)) (w.heap.size) 27 #[.slice A s.pk.length a, .slice B s.sn.length b, .slice C s.lg.length c] := by
      have hk := blk_alloc (blk_alloc (Blk.new w 27 #[.slice A s.pk.length a, .slice B s.sn.length b, .slice C s.lg.length c]) (.cells #[.int .i64 4, .int .i64 ((nn : Nat) : Int), .int .i64 lm, .string lb] 29)) (.cells #[.slice none 0 0, .slice none 0 0, .slice none 0 0] 27)
      exact hk
    have k1 : Blk (((w.alloc (.cells #[.slice A s.pk.length a, .slice B s.sn.length b, .slice C s.lg.length c] 27)).alloc (.cells #[.int .i64 4, .int .i64 ((nn : Nat) : Int), .int .i64 lm, .string lb] 29)).alloc (.cells #[.slice none 0 0, .slice none 0 0, .slice none 0 0] 27)) (w.heap.size + 1) 29 #[.int .i64 4, .int .i64 ((nn : Nat) : Int), .int .i64 lm, .string lb] := by
      have hk := blk_alloc (Blk.new (w.alloc (.cells #[.slice A s.pk.length a, .slice B s.sn.length b, .slice C s.lg.length c] 27)) 29 #[.int .i64 4, .int .i64 ((nn : Nat) : Int), .int .i64 lm, .string lb]) (.cells #[.slice none 0 0, .slice none 0 0, .slice none 0 0] 27)
      simp only [World.size_alloc] at hk
      exact hk
    have k2 : Blk (((w.alloc (.cells #[.slice A s.pk.length a, .slice B s.sn.length b, .slice C s.lg.length c] 27)).alloc (.cells #[.int .i64 4, .int .i64 ((nn : Nat) : Int), .int .i64 lm, .string lb] 29)).alloc (.cells #[.slice none 0 0, .slice none 0 0, .slice none 0 0] 27)) (w.heap.size + 1 + 1) 27 #[.slice none 0 0, .slice none 0 0, .slice none 0 0] := by
      have hk := Blk.new ((w.alloc (.cells #[.slice A s.pk.length a, .slice B s.sn.length b, .slice C s.lg.length c] 27)).alloc (.cells #[.int .i64 4, .int .i64 ((nn : Nat) : Int), .int .i64 lm, .string lb] 29)) 27 #[.slice none 0 0, .slice none 0 0, .slice none 0 0]
      simp only [World.size_alloc] at hk
      exact hk
    have hsw0 : w.heap.size + 3 ≤ (((w.alloc (.cells #[.slice A s.pk.length a, .slice B s.sn.length b, .slice C s.lg.length c] 27)).alloc (.cells #[.int .i64 4, .int .i64 ((nn : Nat) : Int), .int .i64 lm, .string lb] 29)).alloc (.cells #[.slice none 0 0, .slice none 0 0, .slice none 0 0] 27)).heap.size := by simp only [World.size_alloc]; omega
    generalize (((w.alloc (.cells #[.slice A s.pk.length a, .slice B s.sn.length b, .slice C s.lg.length c] 27)).alloc (.cells #[.int .i64 4, .int .i64 ((nn : Nat) : Int), .int .i64 lm, .string lb] 29)).alloc (.cells #[.slice none 0 0, .slice none 0 0, .slice none 0 0] 27)) = w0 at *
    have ck0 := k0.cell
    have fk0 := k0.frozen
    have ck1 := k1.cell
    have fk1 := k1.frozen
    have ck2 := k2.cell
    have fk2 := k2.frozen
    refine (l21Copy_any s _ _ _ w0 lo hi (h.below hbw0 hhi) (Nat.le_trans hhi hbw0.size) hl).mono ?_
    rintro e w1 ⟨v1, v2, v3, rfl, o1, b1⟩
    obtain ⟨A1, a1, rfl⟩ := ORow.form o1.pk
    obtain ⟨B1, b1', rfl⟩ := ORow.form o1.sn
    obtain ⟨C1, c1, rfl⟩ := ORow.form o1.lg
    replace k1 := blk_keep k1 b1
    replace ck1 := k1.cell
    replace fk1 := k1.frozen
    replace k2 := blk_keep k2 b1
    replace ck2 := k2.cell
    replace fk2 := k2.frozen
    replace hbw0 := below_below hbw0 b1
    have z1 := b1.size
    clear k0 ck0 fk0
    have hal := below_alloc w1 (.cells #[.slice A1 s.pk.length a1, .slice B1 s.sn.length b1', .slice C1 s.lg.length c1] 27)
    have ck1' := (blk_keep k1 hal).cell
    go_wp2_with fail
    clear hal ck1'
    have hbw3 : Below w1.heap.size w1 (w1.alloc (.cells #[.slice A1 s.pk.length a1, .slice B1 s.sn.length b1', .slice C1 s.lg.length c1] 27)) := below_alloc _ _
    have m0 : Blk (w1.alloc (.cells #[.slice A1 s.pk.length a1, .slice B1 s.sn.length b1', .slice C1 s.lg.length c1] 27)) (w1.heap.size) 27 #[.slice A1 s.pk.length a1, .slice B1 s.sn.length b1', .slice C1 s.lg.length c1] := by
      have hk := Blk.new w1 27 #[.slice A1 s.pk.length a1, .slice B1 s.sn.length b1', .slice C1 s.lg.length c1]
      exact hk
    have hsw3 : w1.heap.size + 1 ≤ (w1.alloc (.cells #[.slice A1 s.pk.length a1, .slice B1 s.sn.length b1', .slice C1 s.lg.length c1] 27)).heap.size := by simp only [World.size_alloc]; omega
    generalize (w1.alloc (.cells #[.slice A1 s.pk.length a1, .slice B1 s.sn.length b1', .slice C1 s.lg.length c1] 27)) = w3 at *
    have cm0 := m0.cell
    have fm0 := m0.frozen
    replace k1 := blk_keep k1 hbw3
    replace ck1 := k1.cell
    replace fk1 := k1.frozen
    replace k2 := blk_keep k2 hbw3
    replace ck2 := k2.cell
    replace fk2 := k2.frozen
    have hb3 := below_below hbw0 hbw3
    have o3 : OSto w3 w0.heap.size w1.heap.size s _ _ _ := ⟨OPks.tloc.below o1.pk hbw3 (Nat.le_refl _), OSns.tloc.below o1.sn hbw3 (Nat.le_refl _), OHds.tloc.below o1.lg hbw3 (Nat.le_refl _)⟩
    have z3 := hbw3.size
    clear o1 hbw0 hbw3 b1
    refine (l6In_any _ _ _ w3).mono ?_
    rintro e w4 ⟨rfl, rfl⟩
    rw [HBO.out]
    obtain ⟨op, os, ol⟩ := o3
    have hw := OHds.w ol
    obtain ⟨g, c', e, hg1, hg2, dsg, hgb⟩ := OHw.some_ hw (by omega)
    simp only [Value.slice.injEq] at e
    obtain ⟨rfl, -, rfl⟩ := e
    obtain ⟨hyg, hy0, hy1⟩ := OHw.at_ hw HY.out
    have hgood : FHd.good (forkH y) := by
      refine ⟨?_, hyg.2⟩
      show In64 (wrap64 (3 - y.b))
      unfold In64 wrap64
      omega
    have cm2 : w3.cell? ⟨w1.heap.size, 2, none⟩ = some (.slice (some ⟨g, 0, none⟩) s.lg.length c1) := cm0 2
    have cl1 : w3.cell? ⟨w.heap.size + 1, 1, none⟩ = some (.int .i64 ((nn : Nat) : Int)) := ck1 1
    clear ck1 fk1 cm0 fm0 ck2 fk2
    go_wp2_with fail
    have past0 := past_cell cm2
    have past1 := past_cell cl1
    have past2 := past_cell hy0
    refine region_pastT 12 [0, 1, 2, 3, 4, 5, 6, 7, 8, 9, 10, 11] [] (by kernel_rfl) (by kernel_rfl) (by kernel_rfl) ?_
    simp only [pick, List.map, List.getD_cons_zero, List.getD_cons_succ]
    repeat (go_big_quiet_step (fail))
    refine wpQuiet_nil ?_
    clear past0 past1 past2
    apply Exists.intro
    refine past_end ?_
    intro wz hz xx hxx hF
    dsimp only [allF] at hF
    try rw [hxx] at hF
    clear hxx xx
    simp only [List.drop]
    clear hF
    have zz := hz.size
    have hgz := blk_keep hgb hz
    have hfz := hgz.frozen (nn * 2)
    have hcz := cell_keep hz hy0
    have hb5 := (below_below hb3 hz).setCell (p := ⟨g, nn * 2, none⟩) (by dsimp only; omega) (.int .i64 (wrap64 (3 - y.b)))
    have k5 := blk_ne (blk_keep m0 hz) (p := ⟨g, nn * 2, none⟩) (.int .i64 (wrap64 (3 - y.b))) (by dsimp only; omega)
    have k25 := blk_ne (blk_keep k2 hz) (p := ⟨g, nn * 2, none⟩) (.int .i64 (wrap64 (3 - y.b))) (by dsimp only; omega)
    have hkT : ∀ {T : List TypeId} (b : Nat), 59 ∉ T → Typed wz T b → (wz.setCell ⟨g, nn * 2, none⟩ (.int .i64 (wrap64 (3 - y.b)))).heap[b]? = wz.heap[b]? := fun b hT ht => Below.heap_setCell _ _ _ _ (by rintro rfl; exact typed_ne hgz hT ht)
    have r5 : TSto (wz.setCell ⟨g, nn * 2, none⟩ (.int .i64 (wrap64 (3 - y.b)))) w0.heap.size w1.heap.size ⟨s.pk, s.sn, s.lg.set nn (forkH y)⟩ (.slice A1 s.pk.length a1) (.slice B1 s.sn.length b1') (.slice (some ⟨g, 0, none⟩) s.lg.length c1) :=
      ⟨OPks.T (OPks.tloc.go (lo' := w0.heap.size) (hi' := w1.heap.size) (fun b _ _ ht => hkT b (by decide) ht) (Nat.le_refl _) (Nat.le_refl _) (OPks.tloc.below op hz (by omega))),
       OSns.T (OSns.tloc.go (lo' := w0.heap.size) (hi' := w1.heap.size) (fun b _ _ ht => hkT b (by decide) ht) (Nat.le_refl _) (Nat.le_refl _) (OSns.tloc.below os hz (by omega))),
       OHw.T (OHw.put (j := 0) (OHw.tloc.below hw hz (by omega)) HY.out (by decide) hgood rfl)⟩
    have ck5 := k5.cell
    have k25c := k25.cell
    have k25f := k25.frozen
    have z5 : w1.heap.size ≤ (wz.setCell ⟨g, nn * 2, none⟩ (.int .i64 (wrap64 (3 - y.b)))).heap.size := by simp only [World.size_setCell]; omega
    have ck5z := (blk_keep m0 hz).cell
    have k25cz := (blk_keep k2 hz).cell
    have k25fz := (blk_keep k2 hz).frozen
    have K25 := Lib.hid k25
    clear ck5 k25c k25f
    clear hkT m0 k1 k2 k5 k25 hb3 hz hgz hw ol op os hy0 hy1 cm2 cl1 hgood
    have HR5 := Lib.hid r5
    have HB5 := Lib.hid hb5
    clear r5 hb5
    go_wp2_with fail
    refine bodyPost_ret (v := .agg #[.slice A1 s.pk.length a1, .slice B1 s.sn.length b1', .slice (some ⟨g, 0, none⟩) s.lg.length c1]) (by simp [results, Try.results8, go_sem, K25.out.cell]) rfl ⟨_, _, _, rfl, ?_, ?_⟩
    · refine HR5.out.go (fun b hb _ => set3_old _ _ _ _ _ b (by omega)) (by omega) ?_
      simp only [World.size_setCell]
      omega
    · exact ((HB5.out.setCell (by dsimp only; omega) _).setCell (by dsimp only; omega) _).setCell (by dsimp only; omega) _
  · rw [lieS_4n (l := ⟨4, ln, lm, lb⟩) rfl hin]
    have hbool : (decide (0 ≤ ln) && decide (ln ≤ (s.lg.length : Int) - 1)) = false := by
      rw [Bool.and_eq_false_iff]
      by_cases h0 : 0 ≤ ln
      · exact .inr (decide_eq_false fun h => hin ⟨h0, by omega⟩)
      · exact .inl (decide_eq_false h0)
    have HBO := Lib.hid hbool
    clear hbool hin
    obtain ⟨A, a, rfl⟩ := RSl.form h.pk
    obtain ⟨B, b, rfl⟩ := RSl.form h.sn
    go_enter Try.func8, Try.ntmps8
    go_wp2_with fail
    have hbw0 : Below w.heap.size w (((w.alloc (.cells #[.slice A s.pk.length a, .slice B s.sn.length b, .slice C s.lg.length c] 27)).alloc (.cells #[.int .i64 4, .int .i64 ln, .int .i64 lm, .string lb] 29)).alloc (.cells #[.slice none 0 0, .slice none 0 0, .slice none 0 0] 27)) := below_alloc' (below_alloc' (below_alloc _ _) _) _
    have k0 : Blk (((w.alloc (.cells #[.slice A s.pk.length a, .slice B s.sn.length b, .slice C s.lg.length c] 27)).alloc (.cells #[.int .i64 4, .int .i64 ln, .int .i64 lm, .string lb] 29)).alloc (.cells #[.slice none 0 0, .slice none 0 0, .slice none 0 0] 27)) (w.heap.size) 27 #[.slice A s.pk.length a, .slice B s.sn.length b, .slice C s.lg.length c] := by
      have hk := blk_alloc (blk_alloc (Blk.new w 27 #[.slice A s.pk.length a, .slice B s.sn.length b, .slice C s.lg.length c]) (.cells #[.int .i64 4, .int .i64 ln, .int .i64 lm, .string lb] 29)) (.cells #[.slice none 0 0, .slice none 0 0, .slice none 0 0] 27)
      exact hk
    have k1 : Blk (((w.alloc (.cells #[.slice A s.pk.length a, .slice B s.sn.length b, .slice C s.lg.length c] 27)).alloc (.cells #[.int .i64 4, .int .i64 ln, .int .i64 lm, .string lb] 29)).alloc (.cells #[.slice none 0 0, .slice none 0 0, .slice none 0 0] 27)) (w.heap.size + 1) 29 #[.int .i64 4, .int .i64 ln, .int .i64 lm, .string lb] := by
      have hk := blk_alloc (Blk.new (w.alloc (.cells #[.slice A s.pk.length a, .slice B s.sn.length b, .slice C s.lg.length c] 27)) 29 #[.int .i64 4, .int .i64 ln, .int .i64 lm, .string lb]) (.cells #[.slice none 0 0, .slice none 0 0, .slice none 0 0] 27)
      simp only [World.size_alloc] at hk
      exact hk
    have k2 : Blk (((w.alloc (.cells #[.slice A s.pk.length a, .slice B s.sn.length b, .slice C s.lg.length c] 27)).alloc (.cells #[.int .i64 4, .int .i64 ln, .int .i64 lm, .string lb] 29)).alloc (.cells #[.slice none 0 0, .slice none 0 0, .slice none 0 0] 27)) (w.heap.size + 1 + 1) 27 #[.slice none 0 0, .slice none 0 0, .slice none 0 0] := by
      have hk := Blk.new ((w.alloc (.cells #[.slice A s.pk.length a, .slice B s.sn.length b, .slice C s.lg.length c] 27)).alloc (.cells #[.int .i64 4, .int .i64 ln, .int .i64 lm, .string lb] 29)) 27 #[.slice none 0 0, .slice none 0 0, .slice none 0 0]
      simp only [World.size_alloc] at hk
      exact hk
    have hsw0 : w.heap.size + 3 ≤ (((w.alloc (.cells #[.slice A s.pk.length a, .slice B s.sn.length b, .slice C s.lg.length c] 27)).alloc (.cells #[.int .i64 4, .int .i64 ln, .int .i64 lm, .string lb] 29)).alloc (.cells #[.slice none 0 0, .slice none 0 0, .slice none 0 0] 27)).heap.size := by simp only [World.size_alloc]; omega
    generalize (((w.alloc (.cells #[.slice A s.pk.length a, .slice B s.sn.length b, .slice C s.lg.length c] 27)).alloc (.cells #[.int .i64 4, .int .i64 ln, .int .i64 lm, .string lb] 29)).alloc (.cells #[.slice none 0 0, .slice none 0 0, .slice none 0 0] 27)) = w0 at *
    have ck0 := k0.cell
    have fk0 := k0.frozen
    have ck1 := k1.cell
    have fk1 := k1.frozen
    have ck2 := k2.cell
    have fk2 := k2.frozen
    refine (l21Copy_any s _ _ _ w0 lo hi (h.below hbw0 hhi) (Nat.le_trans hhi hbw0.size) hl).mono ?_
    rintro e w1 ⟨v1, v2, v3, rfl, o1, b1⟩
    obtain ⟨A1, a1, rfl⟩ := ORow.form o1.pk
    obtain ⟨B1, b1', rfl⟩ := ORow.form o1.sn
    obtain ⟨C1, c1, rfl⟩ := ORow.form o1.lg
    replace k1 := blk_keep k1 b1
    replace ck1 := k1.cell
    replace fk1 := k1.frozen
    replace k2 := blk_keep k2 b1
    replace ck2 := k2.cell
    replace fk2 := k2.frozen
    replace hbw0 := below_below hbw0 b1
    have z1 := b1.size
    clear k0 ck0 fk0
    have hal := below_alloc w1 (.cells #[.slice A1 s.pk.length a1, .slice B1 s.sn.length b1', .slice C1 s.lg.length c1] 27)
    have ck1' := (blk_keep k1 hal).cell
    go_wp2_with fail
    clear hal ck1'
    have hbw3 : Below w1.heap.size w1 (w1.alloc (.cells #[.slice A1 s.pk.length a1, .slice B1 s.sn.length b1', .slice C1 s.lg.length c1] 27)) := below_alloc _ _
    have m0 : Blk (w1.alloc (.cells #[.slice A1 s.pk.length a1, .slice B1 s.sn.length b1', .slice C1 s.lg.length c1] 27)) (w1.heap.size) 27 #[.slice A1 s.pk.length a1, .slice B1 s.sn.length b1', .slice C1 s.lg.length c1] := by
      have hk := Blk.new w1 27 #[.slice A1 s.pk.length a1, .slice B1 s.sn.length b1', .slice C1 s.lg.length c1]
      exact hk
    have hsw3 : w1.heap.size + 1 ≤ (w1.alloc (.cells #[.slice A1 s.pk.length a1, .slice B1 s.sn.length b1', .slice C1 s.lg.length c1] 27)).heap.size := by simp only [World.size_alloc]; omega
    generalize (w1.alloc (.cells #[.slice A1 s.pk.length a1, .slice B1 s.sn.length b1', .slice C1 s.lg.length c1] 27)) = w3 at *
    have cm0 := m0.cell
    have fm0 := m0.frozen
    replace k1 := blk_keep k1 hbw3
    replace ck1 := k1.cell
    replace fk1 := k1.frozen
    replace k2 := blk_keep k2 hbw3
    replace ck2 := k2.cell
    replace fk2 := k2.frozen
    have hb3 := below_below hbw0 hbw3
    have o3 : OSto w3 w0.heap.size w1.heap.size s _ _ _ := ⟨OPks.tloc.below o1.pk hbw3 (Nat.le_refl _), OSns.tloc.below o1.sn hbw3 (Nat.le_refl _), OHds.tloc.below o1.lg hbw3 (Nat.le_refl _)⟩
    have z3 := hbw3.size
    clear o1 hbw0 hbw3 b1
    refine (l6In_any _ _ _ w3).mono ?_
    rintro e w5 ⟨rfl, rfl⟩
    rw [HBO.out]
    have k5 := m0
    have k25 := k2
    have hb5 := hb3
    have r5 := o3.t
    have z5 := z3
    clear k1 ck1 fk1 k2 ck2 fk2 m0 cm0 fm0 o3 hb3
    have ck5 := k5.cell
    have k25c := k25.cell
    have k25f := k25.frozen
    have HR5 := Lib.hid r5
    have HB5 := Lib.hid hb5
    clear r5 hb5
    go_wp2_with fail
    refine bodyPost_ret (v := .agg #[.slice A1 s.pk.length a1, .slice B1 s.sn.length b1', .slice C1 s.lg.length c1]) (by simp [results, Try.results8, go_sem, k25c]) rfl ⟨_, _, _, rfl, ?_, ?_⟩
    · refine HR5.out.go (fun b hb _ => set3_old _ _ _ _ _ b (by omega)) (by omega) ?_
      simp only [World.size_setCell]
      omega
    · exact ((HB5.out.setCell (by dsimp only; omega) _).setCell (by dsimp only; omega) _).setCell (by dsimp only; omega) _
end Go.Proofs.Ytpdkgpbfmpekgaa




/- What a house shows, by the reference: a pack withheld, a body spoilt. -/
namespace Go.Proofs.Ytpdkgpbfmpekgaa
open Go.RowKit

set_option maxRecDepth 8000 in
set_option maxHeartbeats 4000000 in
theorem lsp1_any (s : Sto) (ln lm : Int) (lb : ByteArray) (va vb vc : Value) (w : World) (lo hi : Nat) (h : RStoL w lo hi s va vb vc) (hhi : hi ≤ w.heap.size) (hl : bSto s ≤ 1099511627) :
    Calls Try.prog 8 #[.agg #[va, vb, vc], .agg (LieC ⟨1, ln, lm, lb⟩)] w (NewStL w w.heap.size (lieS s ⟨1, ln, lm, lb⟩)) := by
  rw [lieS_1 (l := ⟨1, ln, lm, lb⟩) rfl]
  dsimp only
  have hl1 := bulkS_len (f := bPk) (l := s.pk)
  have hpl : s.pk.length ≤ 1099511627 := by unfold bSto at hl; omega
  clear hl1
  obtain ⟨C, c, rfl⟩ := RSl.form h.lg
  obtain ⟨A, a, rfl⟩ := RSl.form h.pk
  obtain ⟨B, b, rfl⟩ := RSl.form h.sn
  go_enter Try.func8, Try.ntmps8
  go_wp2_with fail
  have hbw0 : Below w.heap.size w (((w.alloc (.cells #[.slice A s.pk.length a, .slice B s.sn.length b, .slice C s.lg.length c] 27)).alloc (.cells #[.int .i64 1, .int .i64 ln, .int .i64 lm, .string lb] 29)).alloc (.cells #[.slice none 0 0, .slice none 0 0, .slice none 0 0] 27)) := below_alloc' (below_alloc' (below_alloc _ _) _) _
  have k0 : Blk (((w.alloc (.cells #[.slice A s.pk.length a, .slice B s.sn.length b, .slice C s.lg.length c] 27)).alloc (.cells #[.int .i64 1, .int .i64 ln, .int .i64 lm, .string lb] 29)).alloc (.cells #[.slice none 0 0, .slice none 0 0, .slice none 0 0] 27)) (w.heap.size) 27 #[.slice A s.pk.length a, .slice B s.sn.length b, .slice C s.lg.length c] := by
    have hk := blk_alloc (blk_alloc (Blk.new w 27 #[.slice A s.pk.length a, .slice B s.sn.length b, .slice C s.lg.length c]) (.cells #[.int .i64 1, .int .i64 ln, .int .i64 lm, .string lb] 29)) (.cells #[.slice none 0 0, .slice none 0 0, .slice none 0 0] 27)
    exact hk
  have k1 : Blk (((w.alloc (.cells #[.slice A s.pk.length a, .slice B s.sn.length b, .slice C s.lg.length c] 27)).alloc (.cells #[.int .i64 1, .int .i64 ln, .int .i64 lm, .string lb] 29)).alloc (.cells #[.slice none 0 0, .slice none 0 0, .slice none 0 0] 27)) (w.heap.size + 1) 29 #[.int .i64 1, .int .i64 ln, .int .i64 lm, .string lb] := by
    have hk := blk_alloc (Blk.new (w.alloc (.cells #[.slice A s.pk.length a, .slice B s.sn.length b, .slice C s.lg.length c] 27)) 29 #[.int .i64 1, .int .i64 ln, .int .i64 lm, .string lb]) (.cells #[.slice none 0 0, .slice none 0 0, .slice none 0 0] 27)
    simp only [World.size_alloc] at hk
    exact hk
  have k2 : Blk (((w.alloc (.cells #[.slice A s.pk.length a, .slice B s.sn.length b, .slice C s.lg.length c] 27)).alloc (.cells #[.int .i64 1, .int .i64 ln, .int .i64 lm, .string lb] 29)).alloc (.cells #[.slice none 0 0, .slice none 0 0, .slice none 0 0] 27)) (w.heap.size + 1 + 1) 27 #[.slice none 0 0, .slice none 0 0, .slice none 0 0] := by
    have hk := Blk.new ((w.alloc (.cells #[.slice A s.pk.length a, .slice B s.sn.length b, .slice C s.lg.length c] 27)).alloc (.cells #[.int .i64 1, .int .i64 ln, .int .i64 lm, .string lb] 29)) 27 #[.slice none 0 0, .slice none 0 0, .slice none 0 0]
    simp only [World.size_alloc] at hk
    exact hk
  have hsw0 : w.heap.size + 3 ≤ (((w.alloc (.cells #[.slice A s.pk.length a, .slice B s.sn.length b, .slice C s.lg.length c] 27)).alloc (.cells #[.int .i64 1, .int .i64 ln, .int .i64 lm, .string lb] 29)).alloc (.cells #[.slice none 0 0, .slice none 0 0, .slice none 0 0] 27)).heap.size := by simp only [World.size_alloc]; omega
  generalize (((w.alloc (.cells #[.slice A s.pk.length a, .slice B s.sn.length b, .slice C s.lg.length c] 27)).alloc (.cells #[.int .i64 1, .int .i64 ln, .int .i64 lm, .string lb] 29)).alloc (.cells #[.slice none 0 0, .slice none 0 0, .slice none 0 0] 27)) = w0 at *
  have ck0 := k0.cell
  have fk0 := k0.frozen
  have ck1 := k1.cell
  have fk1 := k1.frozen
  have ck2 := k2.cell
  have fk2 := k2.frozen
  refine (l21Copy_any s _ _ _ w0 lo hi (h.below hbw0 hhi) (Nat.le_trans hhi hbw0.size) hl).mono ?_
  rintro e w1 ⟨v1, v2, v3, rfl, o1, b1⟩
  obtain ⟨A1, a1, rfl⟩ := ORow.form o1.pk
  obtain ⟨B1, b1', rfl⟩ := ORow.form o1.sn
  obtain ⟨C1, c1, rfl⟩ := ORow.form o1.lg
  replace k1 := blk_keep k1 b1
  replace ck1 := k1.cell
  replace fk1 := k1.frozen
  replace k2 := blk_keep k2 b1
  replace ck2 := k2.cell
  replace fk2 := k2.frozen
  replace hbw0 := below_below hbw0 b1
  have z1 := b1.size
  clear k0 ck0 fk0
  have hal := below_alloc w1 (.cells #[.slice A1 s.pk.length a1, .slice B1 s.sn.length b1', .slice C1 s.lg.length c1] 27)
  have ck1' := (blk_keep k1 hal).cell
  go_wp2_with fail
  clear hal ck1'
  have hbw3 : Below w1.heap.size w1 ((w1.alloc (.cells #[.slice A1 s.pk.length a1, .slice B1 s.sn.length b1', .slice C1 s.lg.length c1] 27)).alloc (.cells #[] 37)) := below_alloc' (below_alloc _ _) _
  have m0 : Blk ((w1.alloc (.cells #[.slice A1 s.pk.length a1, .slice B1 s.sn.length b1', .slice C1 s.lg.length c1] 27)).alloc (.cells #[] 37)) (w1.heap.size) 27 #[.slice A1 s.pk.length a1, .slice B1 s.sn.length b1', .slice C1 s.lg.length c1] := by
    have hk := blk_alloc (Blk.new w1 27 #[.slice A1 s.pk.length a1, .slice B1 s.sn.length b1', .slice C1 s.lg.length c1]) (.cells #[] 37)
    exact hk
  have m1 : Blk ((w1.alloc (.cells #[.slice A1 s.pk.length a1, .slice B1 s.sn.length b1', .slice C1 s.lg.length c1] 27)).alloc (.cells #[] 37)) (w1.heap.size + 1) 37 #[] := by
    have hk := Blk.new (w1.alloc (.cells #[.slice A1 s.pk.length a1, .slice B1 s.sn.length b1', .slice C1 s.lg.length c1] 27)) 37 #[]
    simp only [World.size_alloc] at hk
    exact hk
  have hsw3 : w1.heap.size + 2 ≤ ((w1.alloc (.cells #[.slice A1 s.pk.length a1, .slice B1 s.sn.length b1', .slice C1 s.lg.length c1] 27)).alloc (.cells #[] 37)).heap.size := by simp only [World.size_alloc]; omega
  generalize ((w1.alloc (.cells #[.slice A1 s.pk.length a1, .slice B1 s.sn.length b1', .slice C1 s.lg.length c1] 27)).alloc (.cells #[] 37)) = w3 at *
  have cm0 := m0.cell
  have fm0 := m0.frozen
  have cm1 := m1.cell
  have fm1 := m1.frozen
  replace k1 := blk_keep k1 hbw3
  replace ck1 := k1.cell
  replace fk1 := k1.frozen
  replace k2 := blk_keep k2 hbw3
  replace ck2 := k2.cell
  replace fk2 := k2.frozen
  have hb3 := below_below hbw0 hbw3
  have o3 : OSto w3 w0.heap.size w1.heap.size s _ _ _ := ⟨OPks.tloc.below o1.pk hbw3 (Nat.le_refl _), OSns.tloc.below o1.sn hbw3 (Nat.le_refl _), OHds.tloc.below o1.lg hbw3 (Nat.le_refl _)⟩
  have z3 := hbw3.size
  clear o1 hbw0 hbw3 b1
  have HO := Lib.hid (show OwnD OPk 2 37 w3 w0.heap.size (w1.heap.size + 1) (.slice (some ⟨w1.heap.size + 1, 0, none⟩) 0 0) [] from OwnD.lit0 ⟨_, rfl, Nat.le_refl _, m1⟩)
  have zg1 : w.heap.size + 1 + 1 < w1.heap.size := by omega
  clear m1 cm1 fm1 ck1 fk1 ck2 fk2 cm0 fm0
  go_loopw [6, 7] (fun oo ii wr => ∃ k : Nat, k ≤ s.pk.length ∧ ii = .int .i64 k ∧ OwnD OPk 2 37 wr w0.heap.size (w1.heap.size + 1) oo ((s.pk.take k).filter fun p => !(p.no == ln)) ∧ Below (w1.heap.size + 1) w3 wr) (fun _ ii _ => s.pk.length - (intOf ii).toNat)
  case atStart => exact ⟨0, Nat.zero_le _, rfl, HO.out, Below.refl _ _⟩
  case round =>
    clear HO
    obtain ⟨k, hkk, rfl, ho, hbr⟩ := hrel
    obtain ⟨Ao, co, rfl⟩ := ho.form
    have q0 := blk_in m0 hbr (by omega)
    have q1 := blk_in k1 hbr (by omega)
    have q2 := blk_in k2 hbr (by omega)
    have zr := hbr.size
    have cm : wr.cell? ⟨w1.heap.size, 0, none⟩ = some (.slice A1 s.pk.length a1) := q0.cell 0
    have cl1 : wr.cell? ⟨w.heap.size + 1, 1, none⟩ = some (.int .i64 ln) := q1.cell 1
    by_cases hlt : k < s.pk.length
    · obtain ⟨y, hyk⟩ := some_of_lt hlt
      have hop := OPks.tloc.below o3.pk hbr (by omega)
      obtain ⟨g, c', e, hg1, hg2, hg3, dsg, hgb⟩ := ORow.some_ hop (by omega)
      simp only [Value.slice.injEq] at e
      obtain ⟨rfl, -, rfl⟩ := e
      obtain ⟨m, m', es, l1, l2, l3, hel, ⟨v2, rfl, hgd, hrow⟩, hcell, -⟩ := ORow.at_ OPk.tloc (by decide) hop hyk
      obtain ⟨A2, c2, rfl⟩ := ORow.form hrow
      have hc0 : wr.cell? ⟨g, k * 2, none⟩ = some (.int .i64 y.no) := hcell 0 _ rfl
      have hc1 : wr.cell? ⟨g, k * 2 + 1, none⟩ = some (.slice A2 y.its.length c2) := hcell 1 _ rfl
      have HY := Lib.hid hyk
      have HR := Lib.hid hrow
      have HO := Lib.hid ho
      have hln : ((s.pk.take k).filter fun p => !(p.no == ln)).length ≤ s.pk.length := Nat.le_trans (List.length_filter_le _ _) (by rw [List.length_take]; omega)
      clear hcell hyk hrow ho hop dsg hgb
      by_cases hp : y.no = ln
      · have t1 : (y.no == ln) = true := beq_iff_eq.2 hp
        have hfk := filter_drop (p := fun p : Pk => p.no == ln) HY.out t1
        have HF := Lib.hid hfk
        clear hfk hp
        go_wp2_with fail
        have past0 := past_cell cm
        have past1 := past_cell hc0
        have past2 := past_cell cl1
        refine region_pastT 9 [0, 1, 2, 3, 4, 5, 6, 7, 8] [] (by kernel_rfl) (by kernel_rfl) (by kernel_rfl) ?_
        simp only [pick, List.map, List.getD_cons_zero, List.getD_cons_succ]
        repeat (go_big_quiet_step (fail))
        refine wpQuiet_nil ?_
        clear past0 past1 past2
        apply Exists.intro
        refine past_end ?_
        intro wz hz xx hxx hF
        dsimp only [allF] at hF
        try rw [hxx] at hF
        clear hxx xx
        simp only [List.drop]
        clear hF
        have zz := hz.size
        go_wp2_with fail
        go_roundw
        case rel => exact ⟨k + 1, by omega, by go_num, by rw [HF.out]; exact HO.out.below OPk.tloc hz, hbr.trans (hz.mono (by omega))⟩
        case measure => simp [intOf]; omega
      · have t1 : (y.no == ln) = false := beq_eq_false_iff_ne.2 hp
        have hfk := filter_keep (p := fun p : Pk => p.no == ln) HY.out t1
        have HF := Lib.hid hfk
        clear hfk hp
        go_wp2_with fail
        have past0 := past_cell cm
        have past1 := past_cell hc0
        have past2 := past_cell cl1
        refine region_pastT 9 [0, 1, 2, 3, 4, 5, 6, 7, 8] [] (by kernel_rfl) (by kernel_rfl) (by kernel_rfl) ?_
        simp only [pick, List.map, List.getD_cons_zero, List.getD_cons_succ]
        repeat (go_big_quiet_step (fail))
        refine wpQuiet_nil ?_
        clear past0 past1 past2
        apply Exists.intro
        refine past_end ?_
        intro wz hz xx hxx hF
        dsimp only [allF] at hF
        try rw [hxx] at hF
        clear hxx xx
        simp only [List.drop]
        clear hF
        have zz := hz.size
        have cmz := cell_keep hz cm
        have hc0z := cell_keep hz hc0
        have hc1z := cell_keep hz hc1
        have HO3 := Lib.hid (HO.out.below OPk.tloc hz)
        have HY3 := Lib.hid (show OPk wz w0.heap.size wz.heap.size y [.int .i64 y.no, .slice A2 y.its.length c2] from OPk.tloc.wide (OPk.tloc.below (⟨_, rfl, hgd, HR.out⟩ : OPk wr m m' y [.int .i64 y.no, .slice A2 y.its.length c2]) hz (by omega)) l1 (by omega))
        have hb4 := Lib.hid (hbr.trans (hz.mono (by omega)) : Below (w1.heap.size + 1) w3 wz)
        clear HO HR cm hc0 hc1 cl1 q0 q1 q2
        obtain ⟨M, hM⟩ : ∃ M, M = ((s.pk.take k).filter fun p => !(p.no == ln)) := ⟨_, rfl⟩
        rw [← hM] at HO3 HF hln ⊢
        clear hM
        go_wp2_with (at_builtin; refine stopper ?_)
        refine ⟨?_, trivial⟩
        refine app_deep OPk.tloc (by decide) rfl (.tmp 32) (.tmp 38) 23 rfl elem_pk y rfl HO3.out rfl rfl (by simp [Value.oneCell']) HY3.out (by omega) (by have := hb4.out.size; omega) ?_
        intro v8 w8 o8 ch8 at8
        obtain ⟨A8, c8, rfl⟩ := o8.form
        simp only [List.length_append, List.length_cons, List.length_nil, Nat.zero_add] at o8
        go_wp2_with fail
        go_roundw
        case rel =>
          refine ⟨k + 1, by omega, by go_num, by rw [HF.out]; exact o8, hb4.out.trans (ch8.below (by omega) fun i hi hs => ?_)⟩
          have := (HO3.out.at_ hs).1
          omega
        case measure => simp [intOf]; omega
    · obtain rfl : k = s.pk.length := by omega
      rw [List.take_length] at ho
      have hb3' : Below w.heap.size w wr := hb3.trans (hbr.mono (by omega))
      have hcz : Chg (fun b => b = w1.heap.size) wr (wr.setCell ⟨w1.heap.size, 0, none⟩ (.slice Ao (s.pk.filter fun p => !(p.no == ln)).length co)) := (Chg.refl (fun b => b = w1.heap.size) wr).setCell (p := ⟨w1.heap.size, 0, none⟩) (.inl rfl) _
      have ho5 := ho.chg OPk.tloc hcz (fun b hb hs => by have := (ho.at_ hb).1; omega) (fun b _ ht hs => by have hs' : b = w1.heap.size := hs; subst hs'; exact typed_ne q0 (by decide) ht)
      have hb5 := hb3'.setCell (p := ⟨w1.heap.size, 0, none⟩) (by dsimp only; omega) (.slice Ao (s.pk.filter fun p => !(p.no == ln)).length co)
      have hk5 := q0.set_ 0 (.slice Ao (s.pk.filter fun p => !(p.no == ln)).length co)
      simp only [List.setIfInBounds_toArray, List.set_cons_zero, List.set_cons_succ] at hk5
      have k25 := blk_ne q2 (p := ⟨w1.heap.size, 0, none⟩) (.slice Ao (s.pk.filter fun p => !(p.no == ln)).length co) (by dsimp only; omega)
      have hkT : ∀ {T : List TypeId} (b : Nat), 27 ∉ T → Typed wr T b → (wr.setCell ⟨w1.heap.size, 0, none⟩ (.slice Ao (s.pk.filter fun p => !(p.no == ln)).length co)).heap[b]? = wr.heap[b]? := fun b hT ht => Below.heap_setCell _ _ _ _ (by rintro rfl; exact typed_ne q0 hT ht)
      have r5 : TSto (wr.setCell ⟨w1.heap.size, 0, none⟩ (.slice Ao (s.pk.filter fun p => !(p.no == ln)).length co)) w0.heap.size wr.heap.size ⟨s.pk.filter fun p => !(p.no == ln), s.sn, s.lg⟩ (.slice Ao (s.pk.filter fun p => !(p.no == ln)).length co) (.slice B1 s.sn.length b1') (.slice C1 s.lg.length c1) := by
        refine ⟨?_, ?_, ?_⟩
        · have := OwnD.sl ho5 (by omega)
          simpa using this
        · exact tSn.wide (OSns.T (OSns.tloc.go (lo' := w0.heap.size) (hi' := w1.heap.size) (fun b _ _ ht => hkT b (by decide) ht) (Nat.le_refl _) (Nat.le_refl _) (OSns.tloc.below o3.sn hbr (by omega)))) (Nat.le_refl _) (by omega)
        · exact tHd.wide (OHds.T (OHds.tloc.go (lo' := w0.heap.size) (hi' := w1.heap.size) (fun b _ _ ht => hkT b (by decide) ht) (Nat.le_refl _) (Nat.le_refl _) (OHds.tloc.below o3.lg hbr (by omega)))) (Nat.le_refl _) (by omega)
      have K5 := Lib.hid k25
      have HR5 := Lib.hid r5
      have HB5 := Lib.hid hb5
      have cq0 := q0.cell
      have fq0 := q0.frozen
      have cq2 := q2.cell
      have fq2 := q2.frozen
      clear ho ho5 k25 r5 hb5 hk5 hkT hcz q0 q1 q2 hb3'
      go_wp2_with fail
      refine bodyPost_ret (v := .agg #[.slice Ao (s.pk.filter fun p => !(p.no == ln)).length co, .slice B1 s.sn.length b1', .slice C1 s.lg.length c1]) (by simp [results, Try.results8, go_sem, K5.out.cell]) rfl ⟨_, _, _, rfl, ?_, ?_⟩
      · refine HR5.out.go (fun b hb _ => set3_old _ _ _ _ _ b (by omega)) (by omega) ?_
        simp only [World.size_setCell]
        omega
      · exact ((HB5.out.setCell (by dsimp only; omega) _).setCell (by dsimp only; omega) _).setCell (by dsimp only; omega) _
end Go.Proofs.Ytpdkgpbfmpekgaa




/- What a house shows, by the reference: a body spoilt; all lies. -/
namespace Go.Proofs.Ytpdkgpbfmpekgaa
open Go.RowKit

set_option maxRecDepth 8000 in
set_option maxHeartbeats 4000000 in
theorem lsp3_any (s : Sto) (ln lm : Int) (lb : ByteArray) (hlb : lb.size ≤ maxLen) (va vb vc : Value) (w : World) (lo hi : Nat) (h : RStoL w lo hi s va vb vc) (hhi : hi ≤ w.heap.size) (hl : bSto s ≤ 1099511627) :
    Calls Try.prog 8 #[.agg #[va, vb, vc], .agg (LieC ⟨3, ln, lm, lb⟩)] w (NewStL w w.heap.size (lieS s ⟨3, ln, lm, lb⟩)) := by
  rw [lieS_3 (l := ⟨3, ln, lm, lb⟩) rfl]
  have hl1 := bulkS_len (f := bPk) (l := s.pk)
  have hpl : s.pk.length ≤ 1099511627 := by unfold bSto at hl; omega
  clear hl1
  obtain ⟨C, c, rfl⟩ := RSl.form h.lg
  obtain ⟨A, a, rfl⟩ := RSl.form h.pk
  obtain ⟨B, b, rfl⟩ := RSl.form h.sn
  go_enter Try.func8, Try.ntmps8
  go_wp2_with fail
  have hbw0 : Below w.heap.size w (((w.alloc (.cells #[.slice A s.pk.length a, .slice B s.sn.length b, .slice C s.lg.length c] 27)).alloc (.cells #[.int .i64 3, .int .i64 ln, .int .i64 lm, .string lb] 29)).alloc (.cells #[.slice none 0 0, .slice none 0 0, .slice none 0 0] 27)) := below_alloc' (below_alloc' (below_alloc _ _) _) _
  have k0 : Blk (((w.alloc (.cells #[.slice A s.pk.length a, .slice B s.sn.length b, .slice C s.lg.length c] 27)).alloc (.cells #[.int .i64 3, .int .i64 ln, .int .i64 lm, .string lb] 29)).alloc (.cells #[.slice none 0 0, .slice none 0 0, .slice none 0 0] 27)) (w.heap.size) 27 #[.slice A s.pk.length a, .slice B s.sn.length b, .slice C s.lg.length c] := by
    have hk := blk_alloc (blk_alloc (Blk.new w 27 #[.slice A s.pk.length a, .slice B s.sn.length b, .slice C s.lg.length c]) (.cells #[.int .i64 3, .int .i64 ln, .int .i64 lm, .string lb] 29)) (.cells #[.slice none 0 0, .slice none 0 0, .slice none 0 0] 27)
    exact hk
  have k1 : Blk (((w.alloc (.cells #[.slice A s.pk.length a, .slice B s.sn.length b, .slice C s.lg.length c] 27)).alloc (.cells #[.int .i64 3, .int .i64 ln, .int .i64 lm, .string lb] 29)).alloc (.cells #[.slice none 0 0, .slice none 0 0, .slice none 0 0] 27)) (w.heap.size + 1) 29 #[.int .i64 3, .int .i64 ln, .int .i64 lm, .string lb] := by
    have hk := blk_alloc (Blk.new (w.alloc (.cells #[.slice A s.pk.length a, .slice B s.sn.length b, .slice C s.lg.length c] 27)) 29 #[.int .i64 3, .int .i64 ln, .int .i64 lm, .string lb]) (.cells #[.slice none 0 0, .slice none 0 0, .slice none 0 0] 27)
    simp only [World.size_alloc] at hk
    exact hk
  have k2 : Blk (((w.alloc (.cells #[.slice A s.pk.length a, .slice B s.sn.length b, .slice C s.lg.length c] 27)).alloc (.cells #[.int .i64 3, .int .i64 ln, .int .i64 lm, .string lb] 29)).alloc (.cells #[.slice none 0 0, .slice none 0 0, .slice none 0 0] 27)) (w.heap.size + 1 + 1) 27 #[.slice none 0 0, .slice none 0 0, .slice none 0 0] := by
    have hk := Blk.new ((w.alloc (.cells #[.slice A s.pk.length a, .slice B s.sn.length b, .slice C s.lg.length c] 27)).alloc (.cells #[.int .i64 3, .int .i64 ln, .int .i64 lm, .string lb] 29)) 27 #[.slice none 0 0, .slice none 0 0, .slice none 0 0]
    simp only [World.size_alloc] at hk
    exact hk
  have hsw0 : w.heap.size + 3 ≤ (((w.alloc (.cells #[.slice A s.pk.length a, .slice B s.sn.length b, .slice C s.lg.length c] 27)).alloc (.cells #[.int .i64 3, .int .i64 ln, .int .i64 lm, .string lb] 29)).alloc (.cells #[.slice none 0 0, .slice none 0 0, .slice none 0 0] 27)).heap.size := by simp only [World.size_alloc]; omega
  generalize (((w.alloc (.cells #[.slice A s.pk.length a, .slice B s.sn.length b, .slice C s.lg.length c] 27)).alloc (.cells #[.int .i64 3, .int .i64 ln, .int .i64 lm, .string lb] 29)).alloc (.cells #[.slice none 0 0, .slice none 0 0, .slice none 0 0] 27)) = w0 at *
  have ck0 := k0.cell
  have fk0 := k0.frozen
  have ck1 := k1.cell
  have fk1 := k1.frozen
  have ck2 := k2.cell
  have fk2 := k2.frozen
  refine (l21Copy_any s _ _ _ w0 lo hi (h.below hbw0 hhi) (Nat.le_trans hhi hbw0.size) hl).mono ?_
  rintro e w1 ⟨v1, v2, v3, rfl, o1, b1⟩
  obtain ⟨A1, a1, rfl⟩ := ORow.form o1.pk
  obtain ⟨B1, b1', rfl⟩ := ORow.form o1.sn
  obtain ⟨C1, c1, rfl⟩ := ORow.form o1.lg
  replace k1 := blk_keep k1 b1
  replace ck1 := k1.cell
  replace fk1 := k1.frozen
  replace k2 := blk_keep k2 b1
  replace ck2 := k2.cell
  replace fk2 := k2.frozen
  replace hbw0 := below_below hbw0 b1
  have z1 := b1.size
  clear k0 ck0 fk0
  have hal := below_alloc w1 (.cells #[.slice A1 s.pk.length a1, .slice B1 s.sn.length b1', .slice C1 s.lg.length c1] 27)
  have ck1' := (blk_keep k1 hal).cell
  go_wp2_with fail
  clear hal ck1'
  have hbw3 : Below w1.heap.size w1 (w1.alloc (.cells #[.slice A1 s.pk.length a1, .slice B1 s.sn.length b1', .slice C1 s.lg.length c1] 27)) := below_alloc _ _
  have m0 : Blk (w1.alloc (.cells #[.slice A1 s.pk.length a1, .slice B1 s.sn.length b1', .slice C1 s.lg.length c1] 27)) (w1.heap.size) 27 #[.slice A1 s.pk.length a1, .slice B1 s.sn.length b1', .slice C1 s.lg.length c1] := by
    have hk := Blk.new w1 27 #[.slice A1 s.pk.length a1, .slice B1 s.sn.length b1', .slice C1 s.lg.length c1]
    exact hk
  have hsw3 : w1.heap.size + 1 ≤ (w1.alloc (.cells #[.slice A1 s.pk.length a1, .slice B1 s.sn.length b1', .slice C1 s.lg.length c1] 27)).heap.size := by simp only [World.size_alloc]; omega
  generalize (w1.alloc (.cells #[.slice A1 s.pk.length a1, .slice B1 s.sn.length b1', .slice C1 s.lg.length c1] 27)) = w3 at *
  have cm0 := m0.cell
  have fm0 := m0.frozen
  replace k1 := blk_keep k1 hbw3
  replace ck1 := k1.cell
  replace fk1 := k1.frozen
  replace k2 := blk_keep k2 hbw3
  replace ck2 := k2.cell
  replace fk2 := k2.frozen
  have hb3 := below_below hbw0 hbw3
  have o3 : OSto w3 w0.heap.size w1.heap.size s _ _ _ := ⟨OPks.tloc.below o1.pk hbw3 (Nat.le_refl _), OSns.tloc.below o1.sn hbw3 (Nat.le_refl _), OHds.tloc.below o1.lg hbw3 (Nat.le_refl _)⟩
  have z3 := hbw3.size
  clear o1 hbw0 hbw3 b1
  obtain ⟨op, os, ol⟩ := o3
  have HO := Lib.hid op
  have zg1 : w.heap.size + 1 + 1 < w0.heap.size := by omega
  clear ck1 fk1 ck2 fk2 cm0 fm0 op
  go_loopw [8] (fun ii wr => ∃ j : Nat, j ≤ s.pk.length ∧ ii = .int .i64 j ∧ OPks wr w0.heap.size w1.heap.size (mapTo (bodyP ⟨3, ln, lm, lb⟩) s.pk j) [.slice A1 s.pk.length a1] ∧ Chg (fun b => w0.heap.size ≤ b ∧ b < w1.heap.size ∧ Typed w3 [57] b) w3 wr) (fun ii _ => s.pk.length - (intOf ii).toNat)
  case atStart => exact ⟨0, Nat.zero_le _, rfl, by rw [mapTo_zero]; exact HO.out, Chg.refl _ _⟩
  case round =>
    clear HO
    obtain ⟨j, hj, rfl, ho, hcr⟩ := hrel
    have zr := hcr.size
    have q0 := blk_chg m0 hcr fun hx => by omega
    have q1 := blk_chg k1 hcr fun hx => by omega
    have q2 := blk_chg k2 hcr fun hx => by omega
    have cm : wr.cell? ⟨w1.heap.size, 0, none⟩ = some (.slice A1 s.pk.length a1) := q0.cell 0
    have cl1 : wr.cell? ⟨w.heap.size + 1, 1, none⟩ = some (.int .i64 ln) := q1.cell 1
    have cl2 : wr.cell? ⟨w.heap.size + 1, 2, none⟩ = some (.int .i64 lm) := q1.cell 2
    have cl3 : wr.cell? ⟨w.heap.size + 1, 3, none⟩ = some (.string lb) := q1.cell 3
    by_cases hlt : j < s.pk.length
    · obtain ⟨x, hxk⟩ := some_of_lt hlt
      have hxm := mapTo_get (bodyP ⟨3, ln, lm, lb⟩) hxk
      have hml := mapTo_len (bodyP ⟨3, ln, lm, lb⟩) s.pk j
      obtain ⟨g, c', e, hg1, hg2, hg3, dsg, hgb⟩ := ORow.some_ ho (by rw [hml]; omega)
      simp only [Value.slice.injEq] at e
      obtain ⟨rfl, -, rfl⟩ := e
      have HX := Lib.hid hxk
      have HXM := Lib.hid hxm
      have hstep := mapTo_step (bodyP ⟨3, ln, lm, lb⟩) hxk
      have HST := Lib.hid hstep
      clear hxk hxm hml hgb dsg hstep q0 q1 q2
      obtain ⟨m, m', es, l1, l2, l3, hel, ⟨v2, rfl, hgd, hrow⟩, hcell, hup⟩ := ORow.at_ OPk.tloc (by decide) ho HXM.out
      obtain ⟨A2, c2, rfl⟩ := ORow.form hrow
      obtain ⟨_, hi1, hi2⟩ := (OIts.l hrow).len_
      unfold maxLen at hi2
      have hc0 : wr.cell? ⟨g, j * 2, none⟩ = some (.int .i64 x.no) := hcell 0 _ rfl
      have hc1 : wr.cell? ⟨g, j * 2 + 1, none⟩ = some (.slice A2 x.its.length c2) := hcell 1 _ rfl
      have HROW := Lib.hid hrow; have HUP := Lib.hid hup
      clear hcell hrow hup
      by_cases e1 : x.no = ln
      · have t1 : (x.no == ln) = true := beq_iff_eq.2 e1
        have E1 := Lib.hid e1; clear e1
        by_cases hin : 0 ≤ lm ∧ lm < (x.its.length : Int)
        · have hbool : (decide (0 ≤ lm) && decide (lm ≤ (x.its.length : Int) - 1)) = true := by rw [Bool.and_eq_true]; exact ⟨decide_eq_true hin.1, decide_eq_true (by omega)⟩
          have HBO := Lib.hid hbool
          have HIN := Lib.hid hin
          clear hbool hin
          have hwr : IntKind.i64.wrap ((x.its.length : Int) - 1) = (x.its.length : Int) - 1 := IntWalk.i64_in _ (by omega)
          go_wp2_with fail
          have past0 := past_cell cm
          have past1 := past_cell hc0
          have past2 := past_cell hc1
          have past3 := past_cell cl1
          have past4 := past_cell cl2
          refine region_pastT 22 [0, 1, 2, 3, 4, 5, 6, 7, 8, 9, 10, 11, 12, 13, 14, 15, 16, 17, 18, 19] [20, 21] (by kernel_rfl) (by kernel_rfl) (by kernel_rfl) ?_
          simp only [pick, List.map, List.getD_cons_zero, List.getD_cons_succ]
          repeat (go_big_quiet_step (fail))
          refine wpQuiet_nil ?_
          clear past0 past1 past2 past3 past4
          apply Exists.intro
          apply past_fix (.bool true)
          · intro y hF Qx hQ'
            have hQ := Lib.hid hQ'; clear hQ' hF
            go_wp2_with fail
            refine (l6In_any _ _ _ y.to).mono ?_
            rintro e wy ⟨rfl, rfl⟩
            rw [HBO.out]
            go_wp2_with fail
            exact hQ.out _ (Below.refl _ _)
          simp only [Act.put, List.setIfInBounds_toArray, List.set_cons_zero, List.set_cons_succ]
          apply past_fix (.bool true)
          · intro y hF Qx hQ'
            have hQ := Lib.hid hQ'; clear hQ' hF
            go_wp2_with fail
            exact hQ.out _ (Below.refl _ _)
          simp only [Act.put, List.setIfInBounds_toArray, List.set_cons_zero, List.set_cons_succ]
          refine past_end ?_
          intro wz hz xx hxx hF
          dsimp only [allF] at hF
          try rw [hxx] at hF
          clear hxx xx
          simp only [List.drop]
          clear hF
          have zz := hz.size
          obtain ⟨mm, hmm⟩ := Int.eq_ofNat_of_zero_le HIN.out.1
          have hmx : mm < x.its.length := by have := HIN.out.2; omega
          obtain ⟨y, hyk⟩ := some_of_lt hmx
          obtain ⟨gi, ci, ei, hgi1, hgi2, hgi3, dsi, hgib⟩ := ORow.some_ HROW.out (by omega)
          simp only [Value.slice.injEq] at ei
          obtain ⟨rfl, -, rfl⟩ := ei
          have cmz := cell_keep hz cm
          have hc0z := cell_keep hz hc0
          have hc1z := cell_keep hz hc1
          have cl2z := cell_keep hz cl2
          have cl3z := cell_keep hz cl3
          clear cm hc0 hc1 cl1 cl2 cl3 hwr
          have hmr : lm = ((mm : Nat) : Int) := hmm
          have hbody : bodyP ⟨3, ln, lm, lb⟩ x = ⟨x.no, x.its.set mm ⟨y.n, lb⟩⟩ := by
            unfold bodyP
            rw [if_pos ⟨E1.out, HIN.out.1, HIN.out.2⟩, setAt_some (x := y) (by dsimp only; rw [hmm]; exact hyk)]
            dsimp only
            rw [hmm]
            rfl
          have HBD := Lib.hid hbody
          clear hbody hmm
          rw [hmr] at cl2z
          go_wp2_with fail
          have past0 := past_cell cmz
          have past1 := past_cell hc1z
          have past2 := past_cell cl2z
          have past3 := past_cell cl3z
          refine region_pastT 10 [0, 1, 2, 3, 4, 5, 6, 7, 8, 9] [] (by kernel_rfl) (by kernel_rfl) (by kernel_rfl) ?_
          simp only [pick, List.map, List.getD_cons_zero, List.getD_cons_succ]
          repeat (go_big_quiet_step (fail))
          refine wpQuiet_nil ?_
          clear past0 past1 past2 past3
          apply Exists.intro
          refine past_end ?_
          intro wy hy xx hxx hF
          dsimp only [allF] at hF
          try rw [hxx] at hF
          clear hxx xx
          simp only [List.drop]
          clear hF
          have zy := hy.size
          have b1 := below_below hz hy
          have hrow2 := OIts.tloc.below HROW.out b1 (by omega)
          obtain ⟨n1, n2, es2, -, -, -, -, ⟨rfl, hyg⟩, hcy, -⟩ := ORow.at_ (RFlat.tloc FIt) (by decide) hrow2 hyk
          have hcy1 : wy.cell? ⟨gi, mm * 2 + 1, none⟩ = some (.string y.b) := hcy 1 _ rfl
          have hfy := ORow.frozen hrow2 (mm * 2 + 1)
          have hput := ORow.put (j := 1) (u := .string lb) (RFlat.tloc FIt) (by decide) hrow2 hyk (y := (⟨y.n, lb⟩ : It)) (by decide) rfl (fun w' lo hi es hh => ⟨by rw [hh.1]; rfl, hh.2.1, hlb⟩)
          have hti : Typed wr [57] gi := ⟨_, List.mem_cons_self, dsi, hgib⟩
          have hch : Chg (fun b => m ≤ b ∧ b < m' ∧ Typed wr [57] b) wr (wy.setCell ⟨gi, mm * 2 + 1, none⟩ (.string lb)) :=
            (Chg.of_below (S := fun b => m ≤ b ∧ b < m' ∧ Typed wr [57] b) b1).setCell (p := ⟨gi, mm * 2 + 1, none⟩) (.inl ⟨hgi1, hgi2, hti⟩) (.string lb)
          have ho3 := HUP.out _ ⟨x.no, x.its.set mm ⟨y.n, lb⟩⟩ hch ⟨.slice (some ⟨gi, 0, none⟩) x.its.length c2, rfl, hgd, hput⟩
          rw [← HBD.out, HST.out] at ho3
          have hc3 := hcr.trans hch fun b hb hx => ⟨by omega, by omega, typed_back hcr (T := [57]) (fun t ht => ht) (show b < w1.heap.size by omega) (by omega) (fun hs => hs.2.2) hx.2.2⟩
          have HO3 := Lib.hid ho3; have HC3 := Lib.hid hc3
          clear ho hcr ho3 hc3 hch hput hcy hyk HUP HROW hrow2 b1 cmz hc0z hc1z cl2z cl3z
          go_wp2_with fail
          go_roundw
          case rel => exact ⟨j + 1, by omega, by go_num, HO3.out, HC3.out⟩
          case measure => simp [intOf]; omega
        · have hbool : (decide (0 ≤ lm) && decide (lm ≤ (x.its.length : Int) - 1)) = false := by
            rw [Bool.and_eq_false_iff]
            by_cases h0 : 0 ≤ lm
            · exact .inr (decide_eq_false fun h => hin ⟨h0, by omega⟩)
            · exact .inl (decide_eq_false h0)
          have HBO := Lib.hid hbool
          have HIN := Lib.hid hin
          clear hbool hin
          have hwr : IntKind.i64.wrap ((x.its.length : Int) - 1) = (x.its.length : Int) - 1 := IntWalk.i64_in _ (by omega)
          go_wp2_with fail
          have past0 := past_cell cm
          have past1 := past_cell hc0
          have past2 := past_cell hc1
          have past3 := past_cell cl1
          have past4 := past_cell cl2
          refine region_pastT 22 [0, 1, 2, 3, 4, 5, 6, 7, 8, 9, 10, 11, 12, 13, 14, 15, 16, 17, 18, 19] [20, 21] (by kernel_rfl) (by kernel_rfl) (by kernel_rfl) ?_
          simp only [pick, List.map, List.getD_cons_zero, List.getD_cons_succ]
          repeat (go_big_quiet_step (fail))
          refine wpQuiet_nil ?_
          clear past0 past1 past2 past3 past4
          apply Exists.intro
          apply past_fix (.bool false)
          · intro y hF Qx hQ'
            have hQ := Lib.hid hQ'; clear hQ' hF
            go_wp2_with fail
            refine (l6In_any _ _ _ y.to).mono ?_
            rintro e wy ⟨rfl, rfl⟩
            rw [HBO.out]
            go_wp2_with fail
            exact hQ.out _ (Below.refl _ _)
          simp only [Act.put, List.setIfInBounds_toArray, List.set_cons_zero, List.set_cons_succ]
          apply past_fix (.bool false)
          · intro y hF Qx hQ'
            have hQ := Lib.hid hQ'; clear hQ' hF
            go_wp2_with fail
            exact hQ.out _ (Below.refl _ _)
          simp only [Act.put, List.setIfInBounds_toArray, List.set_cons_zero, List.set_cons_succ]
          refine past_end ?_
          intro wz hz xx hxx hF
          dsimp only [allF] at hF
          try rw [hxx] at hF
          clear hxx xx
          simp only [List.drop]
          clear hF
          have zz := hz.size
          clear hwr
          have hsame := mapTo_same (bodyP ⟨3, ln, lm, lb⟩) HX.out (bodyP_no (fun h => HIN.out h.2))
          have HS := Lib.hid hsame; clear hsame
          have ho2 := OPks.tloc.below ho hz (by omega)
          have hc2 := hcr.trans (Chg.of_below (S := fun _ => False) hz) fun _ _ h => h.elim
          have HO2 := Lib.hid ho2; have HC2 := Lib.hid hc2
          clear ho hcr ho2 hc2 cm hc0 hc1 cl1 cl2 cl3
          go_wp2_with fail
          go_roundw
          case rel => exact ⟨j + 1, by omega, by go_num, by rw [HS.out]; exact HO2.out, HC2.out⟩
          case measure => simp [intOf]; omega
      · have t1 : (x.no == ln) = false := beq_eq_false_iff_ne.2 e1
        have E1 := Lib.hid e1; clear e1
        go_wp2_with fail
        have past0 := past_cell cm
        have past1 := past_cell hc0
        have past2 := past_cell hc1
        have past3 := past_cell cl1
        have past4 := past_cell cl2
        refine region_pastT 22 [0, 1, 2, 3, 4, 5, 6, 7, 8, 9, 10, 11, 12, 13, 14, 15, 16, 17, 18, 19] [20, 21] (by kernel_rfl) (by kernel_rfl) (by kernel_rfl) ?_
        simp only [pick, List.map, List.getD_cons_zero, List.getD_cons_succ]
        repeat (go_big_quiet_step (fail))
        refine wpQuiet_nil ?_
        clear past0 past1 past2 past3 past4
        apply Exists.intro
        apply past_fix (undef)
        · intro y hF Qx hQ'
          have hQ := Lib.hid hQ'; clear hQ' hF
          go_wp2_with fail
          exact hQ.out _ (Below.refl _ _)
        simp only [Act.put, List.setIfInBounds_toArray, List.set_cons_zero, List.set_cons_succ]
        apply past_fix (.bool false)
        · intro y hF Qx hQ'
          have hQ := Lib.hid hQ'; clear hQ' hF
          go_wp2_with fail
          exact hQ.out _ (Below.refl _ _)
        simp only [Act.put, List.setIfInBounds_toArray, List.set_cons_zero, List.set_cons_succ]
        refine past_end ?_
        intro wz hz xx hxx hF
        dsimp only [allF] at hF
        try rw [hxx] at hF
        clear hxx xx
        simp only [List.drop]
        clear hF
        have zz := hz.size
        have hsame := mapTo_same (bodyP ⟨3, ln, lm, lb⟩) HX.out (bodyP_no (fun h => E1.out h.1))
        have HS := Lib.hid hsame; clear hsame
        have ho2 := OPks.tloc.below ho hz (by omega)
        have hc2 := hcr.trans (Chg.of_below (S := fun _ => False) hz) fun _ _ h => h.elim
        have HO2 := Lib.hid ho2; have HC2 := Lib.hid hc2
        clear ho hcr ho2 hc2 cm hc0 hc1 cl1 cl2 cl3
        go_wp2_with fail
        go_roundw
        case rel => exact ⟨j + 1, by omega, by go_num, by rw [HS.out]; exact HO2.out, HC2.out⟩
        case measure => simp [intOf]; omega
    · obtain rfl : j = s.pk.length := by omega
      rw [mapTo_all] at ho
      have o2 := OSns.tloc.go (w' := wr) (lo' := w0.heap.size) (hi' := w1.heap.size) (fun b b1 b2 ht => hcr.block b (by omega) fun hx => typed_ne' ht (by decide) hx.2.2) (Nat.le_refl _) (Nat.le_refl _) os
      have o3 := OHds.tloc.go (w' := wr) (lo' := w0.heap.size) (hi' := w1.heap.size) (fun b b1 b2 ht => hcr.block b (by omega) fun hx => typed_ne' ht (by decide) hx.2.2) (Nat.le_refl _) (Nat.le_refl _) ol
      have hb5 : Below w.heap.size w wr := hb3.trans (hcr.below (by omega) fun i hi hx => by omega)
      have r5 : TSto wr w0.heap.size w1.heap.size ⟨s.pk.map (bodyP ⟨3, ln, lm, lb⟩), s.sn, s.lg⟩ (.slice A1 s.pk.length a1) (.slice B1 s.sn.length b1') (.slice C1 s.lg.length c1) := ⟨OPks.T ho, OSns.T o2, OHds.T o3⟩
      have ck5 := q0.cell
      have k25c := q2.cell
      have k25f := q2.frozen
      have z5 : w1.heap.size ≤ wr.heap.size := by omega
      clear ho hcr o2 o3 q0 q1 q2 cm cl1 cl2 cl3
      have HR5 := Lib.hid r5
      have HB5 := Lib.hid hb5
      clear r5 hb5
      go_wp2_with fail
      refine bodyPost_ret (v := .agg #[.slice A1 s.pk.length a1, .slice B1 s.sn.length b1', .slice C1 s.lg.length c1]) (by simp [results, Try.results8, go_sem, k25c]) rfl ⟨_, _, _, rfl, ?_, ?_⟩
      · refine HR5.out.go (fun b hb _ => set3_old _ _ _ _ _ b (by omega)) (by omega) ?_
        simp only [World.size_setCell]
        omega
      · exact ((HB5.out.setCell (by dsimp only; omega) _).setCell (by dsimp only; omega) _).setCell (by dsimp only; omega) _
theorem specLieShow_any (s : Sto) (l : LieV) (va vb vc : Value) (w : World) (lo hi : Nat) (h : RStoL w lo hi s va vb vc) (hhi : hi ≤ w.heap.size) (hl : bSto s ≤ 1099511627) (hlb : l.b.size ≤ maxLen) :
    Calls Try.prog 8 #[.agg #[va, vb, vc], .agg (LieC l)] w (NewStL w w.heap.size (lieS s l)) := by
  obtain ⟨k, n, m, b⟩ := l
  by_cases e1 : k = 1
  · subst e1; exact lsp1_any s n m b va vb vc w lo hi h hhi hl
  by_cases e2 : k = 2
  · subst e2; exact lsp2_any s n m b va vb vc w lo hi h hhi hl
  by_cases e3 : k = 3
  · subst e3; exact lsp3_any s n m b hlb va vb vc w lo hi h hhi hl
  by_cases e4 : k = 4
  · subst e4; exact lsp4_any s n m b va vb vc w lo hi h hhi hl
  rw [lieS_5 (l := ⟨k, n, m, b⟩) e1 e2 e3 e4]
  exact lsp5_any s k n m b e1 e2 e3 e4 va vb vc w lo hi h hhi hl
end Go.Proofs.Ytpdkgpbfmpekgaa

