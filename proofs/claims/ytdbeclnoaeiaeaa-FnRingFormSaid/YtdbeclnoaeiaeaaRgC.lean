


/- A ring anew. -/
import Derived.Test.YtdbeclnoaeiaeaaRgO
namespace Go.Proofs.Ytdbeclnoaeiaeaa
open Go.RowKit

set_option maxHeartbeats 1000000 in
theorem l33Copy_any (r : Rg) (va vb : Value) (w : World) (lo hi : Nat) (hhi : hi ≤ w.heap.size) (ha : RSl RInt 1 w lo hi r.keys [va]) (h : RSl RGr 3 w lo hi r.grs [vb]) (hl1 : r.keys.length ≤ 1048576) (hl2 : r.grs.length ≤ 1048576) :
    Calls Try.prog 62 #[.agg #[va, vb]] w (NewRg w r) := by
  obtain ⟨A, c, rfl⟩ := ha.form
  obtain ⟨B, d, rfl⟩ := h.form
  obtain ⟨_, hc, hx⟩ := ha.len_
  obtain ⟨_, hd, hy⟩ := h.len_
  unfold maxLen at hx hy
  have hbw := below_alloc w (.cells #[.slice A r.keys.length c, .slice B r.grs.length d] 30)
  have f1 := sl_keep RInt.loc ha hbw hhi
  have g1 := sl_keep RGr.loc h hbw hhi
  have c0 := new_cell w #[.slice A r.keys.length c, .slice B r.grs.length d] 30 0 rfl
  have c1 := new_cell w #[.slice A r.keys.length c, .slice B r.grs.length d] 30 1 rfl
  have hhi0 : hi ≤ (w.alloc (.cells #[.slice A r.keys.length c, .slice B r.grs.length d] 30)).heap.size := Nat.le_trans hhi hbw.size
  go_enter Try.func62, Try.ntmps62
  go_wp2_with fail
  have hbr0 := below_alloc (w.alloc (.cells #[.slice A r.keys.length c, .slice B r.grs.length d] 30)) (.cells #[.slice none 0 0, .slice none 0 0] 30)
  have r0 := Blk.new (w.alloc (.cells #[.slice A r.keys.length c, .slice B r.grs.length d] 30)) 30 #[.slice none 0 0, .slice none 0 0]
  simp only [World.size_alloc] at r0
  replace c0 := cell_keep hbr0 c0
  replace c1 := cell_keep hbr0 c1
  replace f1 := sl_keep RInt.loc f1 hbr0 hhi0
  replace g1 := sl_keep RGr.loc g1 hbr0 hhi0
  replace hbw := hbw.trans (hbr0.mono hbw.size)
  replace hhi0 := Nat.le_trans hhi0 hbr0.size
  generalize (w.alloc (.cells #[.slice A r.keys.length c, .slice B r.grs.length d] 30)).alloc (.cells #[.slice none 0 0, .slice none 0 0] 30) = w0 at *
  have sk := Lib.hid (src_flat (F := FInt) f1 hhi0)
  have sg := Lib.hid (src_flat (F := FGr) g1 hhi0)
  have past0 := past_cell c0
  have past1 := past_cell c1
  refine region_pastT 9 [1, 2, 5, 6] [0, 3, 4, 7, 8] (by kernel_rfl) (by kernel_rfl) (by kernel_rfl) ?_
  simp only [pick, List.map, List.getD_cons_zero, List.getD_cons_succ]
  repeat (go_big_quiet_step (fail))
  refine wpQuiet_nil ?_
  clear past0 past1
  apply Exists.intro
  apply past_any (Lit0 w0.heap.size 3)
  · rfl
  · exact fun v x y h hle => h.keep hle
  · intro x _ Qx hQ
    go_wp2_with fail
    exact hQ _ _ (below_alloc _ _) (Lit0.new _ _ x.ok.size)
  intro v0
  simp only [Act.put, List.setIfInBounds_toArray, List.set_cons_zero, List.set_cons_succ]
  apply past_any (fun v w' => OwnF FInt 3 w' w0.heap.size v r.keys)
  · rfl
  · exact fun v x y h hle => h.below hle
  · intro x hF Qx hQ
    have hL := hF.1 (by kernel_rfl)
    exact tab_copy rfl (.tmp 3) (.tmp 5) 22 rfl elem_int (Nat.le_refl _) rfl rfl hL sk.out (by omega) fun v' x' hle ho => hQ v' x'.to hle ho
  intro v1
  simp only [Act.put, List.setIfInBounds_toArray, List.set_cons_zero, List.set_cons_succ]
  apply past_any (Lit0 w0.heap.size 37)
  · rfl
  · exact fun v x y h hle => h.keep hle
  · intro x _ Qx hQ
    go_wp2_with fail
    exact hQ _ _ (below_alloc _ _) (Lit0.new _ _ x.ok.size)
  intro v2
  simp only [Act.put, List.setIfInBounds_toArray, List.set_cons_zero, List.set_cons_succ]
  apply past_any (fun v w' => OwnF FGr 37 w' w0.heap.size v r.grs)
  · rfl
  · exact fun v x y h hle => h.below hle
  · intro x hF Qx hQ
    have hL := hF.1 (by kernel_rfl)
    exact tab_copy rfl (.tmp 7) (.tmp 9) 28 rfl elem_gr (Nat.le_refl _) rfl rfl hL sg.out (by omega) fun v' x' hle ho => hQ v' x'.to hle ho
  intro v3
  simp only [Act.put, List.setIfInBounds_toArray, List.set_cons_zero, List.set_cons_succ]
  apply past_any (fun v w' => ∃ va vb, v = .agg #[va, vb] ∧ OwnRg w' w0.heap.size va vb r)
  · rfl
  · exact fun v x y ⟨va, vb, e, h⟩ hle => ⟨va, vb, e, h.below hle⟩
  · intro x hF Qx hQ
    obtain ⟨h3, _, h1, _, _⟩ := hF
    have h3 := h3 (by kernel_rfl)
    have h1 := h1 (by kernel_rfl)
    obtain ⟨_, _, rfl⟩ := h3.form
    obtain ⟨_, _, rfl⟩ := h1.form
    go_wp2_with fail
    exact hQ _ _ (Below.refl _ _) ⟨_, _, rfl, h1, h3⟩
  intro v4
  simp only [Act.put, List.setIfInBounds_toArray, List.set_cons_zero, List.set_cons_succ]
  refine past_end ?_
  intro w2 hb2 x hx hF
  dsimp only [allF] at hF
  rw [hx] at hF
  clear hx x
  obtain ⟨⟨va, vb, rfl, ho⟩, -⟩ := hF
  obtain ⟨_, _, rfl⟩ := ho.keys.form
  obtain ⟨_, _, rfl⟩ := ho.grs.form
  have hlt := r0.lt
  have r2 := blk_keep r0 hb2
  have r20 : w2.cell? ⟨w.heap.size + 1, 0, none⟩ = some (.slice none 0 0) := r2.cell 0
  have r21 : w2.cell? ⟨w.heap.size + 1, 1, none⟩ = some (.slice none 0 0) := r2.cell 1
  have rf := r2.frozen
  simp only [List.drop]
  go_wp2_with fail
  exact bodyPost_ret (v := .agg #[_, _]) (by simp [results, Try.results62, go_sem, r20, r21]) rfl ⟨_, _, rfl, ((ho.set_ _ hlt).set_ _ hlt).base (by omega), ((hbw.trans (hb2.mono hbw.size)).setCell (by simp) _).setCell (by simp) _⟩
end Go.Proofs.Ytdbeclnoaeiaeaa
