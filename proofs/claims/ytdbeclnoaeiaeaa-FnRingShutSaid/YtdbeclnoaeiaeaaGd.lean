


/- A ring under a lock: guard, turn. -/
import Derived.Test.YtdbeclnoaeiaeaaCl
import Derived.Test.YtdbeclnoaeiaeaaRgT
import Derived.Test.YtdbeclnoaeiaeaaLock
import Derived.Conc.MuLone
namespace Go.Proofs.Ytdbeclnoaeiaeaa
open Go.RowKit Go.MuLone

theorem own_blk_ne {w : World} {base : Nat} {e t : TypeId} {sz n : Nat} {v : Value} {cs : List Value} (h : w.ownsRow base e sz v n cs) {g : Nat} {ks : Array Value} (hk : Blk w g t ks) (he : e ≠ t) : v.ownBlock ≠ some g := by
  intro hb
  rcases h.2 with ⟨rfl, _⟩ | ⟨g', cap, cur, rfl, _, hg, _⟩
  · simp [Value.ownBlock] at hb
  · simp [Value.ownBlock] at hb
    subst hb
    unfold Blk at hk
    rw [hk] at hg
    simp at hg
    exact he hg.2.symm

/-- A ring under a free lock, in blocks of the call's own. -/
def Gd (w : World) (base g : Nat) (r : Rg) : Prop := base ≤ g ∧ ∃ va vb, Blk w g 83 #[.int .i32 0, .int .u32 0, va, vb] ∧ OwnRg w base va vb r
def NewGd (w : World) (r : Rg) (e : Ending) (w' : World) : Prop := ∃ g, e = .returned (.pointer (some ⟨g, 0, none⟩)) ∧ Gd w' w.heap.size g r ∧ Below w.heap.size w w'
theorem Gd.below {w w' : World} {base g : Nat} {r : Rg} (h : Gd w base g r) (hb : Below w.heap.size w w') : Gd w' base g r := by
  obtain ⟨h1, va, vb, hk, ho⟩ := h
  exact ⟨h1, va, vb, blk_keep hk hb, ho.below hb⟩
theorem Gd.base {w : World} {base base' g : Nat} {r : Rg} (h : Gd w base g r) (hb : base' ≤ base) : Gd w base' g r := by
  obtain ⟨h1, va, vb, hk, ho⟩ := h
  exact ⟨Nat.le_trans hb h1, va, vb, hk, ho.base hb⟩

set_option maxHeartbeats 1000000 in
theorem guard_any (r : Rg) (va vb : Value) (w : World) (lo hi : Nat) (hhi : hi ≤ w.heap.size) (ha : RSl RInt 1 w lo hi r.keys [va]) (h : RSl RGr 3 w lo hi r.grs [vb]) (hl1 : r.keys.length ≤ 1048576) (hl2 : r.grs.length ≤ 1048576) :
    Calls Try.prog 64 #[.agg #[va, vb]] w (NewGd w r) := by
  obtain ⟨A, c, rfl⟩ := ha.form
  obtain ⟨B, d, rfl⟩ := h.form
  obtain ⟨_, hc, hx⟩ := ha.len_
  obtain ⟨_, hd, hy⟩ := h.len_
  unfold maxLen at hx hy
  have hbw := below_alloc w (.cells #[.slice A r.keys.length c, .slice B r.grs.length d] 30)
  have f1 := sl_keep RInt.loc ha hbw hhi
  have g1 := sl_keep RGr.loc h hbw hhi
  have c0 := new_cell w #[.slice A r.keys.length c, .slice B r.grs.length d] 30 0 rfl
  have c1 := new_cell w #[.slice A r.keys.length c, .slice B r.grs.length d] 30 1 rfl
  have hhi0 : hi ≤ (w.alloc (.cells #[.slice A r.keys.length c, .slice B r.grs.length d] 30)).heap.size := Nat.le_trans hhi hbw.size
  go_enter Try.func64, Try.ntmps64
  go_wp2_with fail
  generalize w.alloc (.cells #[.slice A r.keys.length c, .slice B r.grs.length d] 30) = w0 at *
  have past0 := past_cell c0
  have past1 := past_cell c1
  refine region_pastT 10 [0, 1, 3, 4] [2, 5, 6, 7, 8, 9] (by kernel_rfl) (by kernel_rfl) (by kernel_rfl) ?_
  simp only [pick, List.map, List.getD_cons_zero, List.getD_cons_succ]
  repeat (go_big_quiet_step (fail))
  refine wpQuiet_nil ?_
  clear past0 past1
  apply Exists.intro
  apply past_any (fun v w' => OwnF FInt 3 w' w0.heap.size v r.keys)
  · rfl
  · exact fun v x y h hle => h.below hle
  · intro x _ Qx hQ'
    have hQ := Lib.hid hQ'; clear hQ'
    go_wp2_with fail
    refine (clone_int r.keys _ _ _ _ (sl_keep RInt.loc f1 x.ok hhi0) (Nat.le_trans hhi0 x.ok.size) (by omega)).mono ?_
    rintro e wy ⟨v5, rfl, o5, by5⟩
    go_wp2_with fail
    exact hQ.out _ _ by5 (o5.base x.ok.size)
  intro v5
  simp only [Act.put, List.setIfInBounds_toArray, List.set_cons_zero, List.set_cons_succ]
  apply past_any (fun v w' => OwnF FGr 37 w' w0.heap.size v r.grs)
  · rfl
  · exact fun v x y h hle => h.below hle
  · intro x _ Qx hQ'
    have hQ := Lib.hid hQ'; clear hQ'
    go_wp2_with fail
    refine (clone_gr r.grs _ _ _ _ (sl_keep RGr.loc g1 x.ok hhi0) (Nat.le_trans hhi0 x.ok.size) (by omega)).mono ?_
    rintro e wy ⟨v5, rfl, o5, by5⟩
    go_wp2_with fail
    exact hQ.out _ _ by5 (o5.base x.ok.size)
  intro v8
  simp only [Act.put, List.setIfInBounds_toArray, List.set_cons_zero, List.set_cons_succ]
  apply past_any (fun v w' => ∃ va vb, v = .agg #[va, vb] ∧ OwnRg w' w0.heap.size va vb r)
  · rfl
  · exact fun v x y ⟨va, vb, e, h⟩ hle => ⟨va, vb, e, h.below hle⟩
  · intro x hF Qx hQ'
    have hQ := Lib.hid hQ'; clear hQ'
    have h3 := hF.1 (by kernel_rfl)
    have h1 := hF.2.1 (by kernel_rfl)
    obtain ⟨_, _, rfl⟩ := h3.form
    obtain ⟨_, _, rfl⟩ := h1.form
    go_wp2_with fail
    exact hQ.out _ _ (Below.refl _ _) ⟨_, _, rfl, h1, h3⟩
  intro v9
  simp only [Act.put, List.setIfInBounds_toArray, List.set_cons_zero, List.set_cons_succ]
  apply past_any (fun v w' => ∃ va vb, v = .agg #[.int .i32 0, .int .u32 0, va, vb] ∧ OwnRg w' w0.heap.size va vb r)
  · rfl
  · exact fun v x y ⟨va, vb, e, h⟩ hle => ⟨va, vb, e, h.below hle⟩
  · intro x hF Qx hQ'
    have hQ := Lib.hid hQ'; clear hQ'
    obtain ⟨va, vb, rfl, h1⟩ := hF.1 (by kernel_rfl)
    obtain ⟨_, _, rfl⟩ := h1.keys.form
    obtain ⟨_, _, rfl⟩ := h1.grs.form
    go_wp2_with fail
    exact hQ.out _ _ (Below.refl _ _) ⟨_, _, rfl, h1⟩
  intro v10
  simp only [Act.put, List.setIfInBounds_toArray, List.set_cons_zero, List.set_cons_succ]
  apply past_any (fun v w' => ∃ g, v = .pointer (some ⟨g, 0, none⟩) ∧ Gd w' w0.heap.size g r)
  · rfl
  · exact fun v x y ⟨g, e, h⟩ hle => ⟨g, e, h.below hle⟩
  · intro x hF Qx hQ'
    have hQ := Lib.hid hQ'; clear hQ'
    obtain ⟨va, vb, rfl, h1⟩ := hF.1 (by kernel_rfl)
    obtain ⟨_, _, rfl⟩ := h1.keys.form
    obtain ⟨_, _, rfl⟩ := h1.grs.form
    go_wp2_with fail
    exact hQ.out _ _ (below_alloc _ _) ⟨_, rfl, x.ok.size, _, _, Blk.new _ _ _, h1.below (below_alloc _ _)⟩
  intro v11
  simp only [Act.put, List.setIfInBounds_toArray, List.set_cons_zero, List.set_cons_succ]
  apply past_any (fun v w' => ∃ g, v = .pointer (some ⟨g, 0, none⟩) ∧ Gd w' w0.heap.size g r)
  · rfl
  · exact fun v x y ⟨g, e, h⟩ hle => ⟨g, e, h.below hle⟩
  · intro x hF Qx hQ'
    have hQ := Lib.hid hQ'; clear hQ'
    obtain ⟨g, rfl, h1⟩ := hF.1 (by kernel_rfl)
    go_wp2_with fail
    exact hQ.out _ _ (Below.refl _ _) ⟨_, rfl, h1⟩
  intro v2
  simp only [Act.put, List.setIfInBounds_toArray, List.set_cons_zero, List.set_cons_succ]
  refine past_end ?_
  intro w7 hb7 xx hxx hF
  dsimp only [allF] at hF
  try rw [hxx] at hF
  clear hxx xx
  obtain ⟨⟨g, rfl, hg⟩, -⟩ := hF
  simp only [List.drop]
  go_wp2_with fail
  go_ret
  exact ⟨_, rfl, hg.base hbw.size, hbw.trans (hb7.mono hbw.size)⟩

set_option maxHeartbeats 1000000 in
theorem turn_yes (r : Rg) (key : Int) (g base : Nat) (w : World) (h : Gd w base g r) (hl : (r.keys.length : Int) < 9) (hk : decide (key ∈ r.keys) = false) (h64 : ∀ x ∈ r.keys, In64 x) :
    Calls Try.prog 65 #[.pointer (some ⟨g, 0, none⟩), .int .i64 key] w fun e w' => e = .returned (.bool true) ∧ Gd w' base g ⟨r.keys ++ [key], r.grs⟩ ∧ Chg (fun b => base ≤ b) w w' := by
  have H64 := Lib.hid h64; clear h64
  have t9 : ((r.keys.length : Int) == 9) = false := by rw [beq_eq_false_iff_ne]; omega
  obtain ⟨hbg, va, vb, k0, ho⟩ := h
  obtain ⟨A, c, rfl⟩ := ho.keys.form
  obtain ⟨B, d, rfl⟩ := ho.grs.form
  have c0 : w.cell? ⟨g, 0, none⟩ = some (.int .i32 0) := k0.cell 0
  have f0 := k0.frozen 0
  have n1 := own_blk_ne ho.keys k0 (by decide)
  have n2 := own_blk_ne ho.grs k0 (by decide)
  have hgl := k0.lt
  have o1 := ho.keys.set_ne (p := ⟨g, 0, none⟩) (.int .i32 1) (fun b hb he => n1 (by rw [hb, he]))
  have o2 := ho.grs.set_ne (p := ⟨g, 0, none⟩) (.int .i32 1) (fun b hb he => n2 (by rw [hb, he]))
  have ch1 : Chg (fun b => base ≤ b) w (w.setCell ⟨g, 0, none⟩ (.int .i32 1)) := (Chg.refl _ _).setCell (p := ⟨g, 0, none⟩) (.inl hbg) _
  go_enter_defers Try.func65, Try.ntmps65
  go_wp2_with (go_at_call 78; refine (lock_free muLib ⟨g, 0, none⟩ _ c0 f0).mono ?_; rintro e w' ⟨rfl, rfl⟩; replace k0 := k0.set_ 0 (.int .i32 1); simp only [List.setIfInBounds_toArray, List.set_cons_zero, List.set_cons_succ] at k0; clear c0 f0 ho; generalize w.setCell ⟨g, 0, none⟩ (.int .i32 1) = w1 at *; have ck0 := k0.cell; have fk0 := k0.frozen)
  refine (contains_int key r.keys _ _ _ _ _ _ (o1.sl H64.out (Nat.le_refl _))).mono ?_
  rintro e w2 ⟨rfl, rfl⟩
  go_wp2_with (at_builtin; refine app_flat (F := FInt) (v := .slice A r.keys.length c) rfl (.tmp 33) (.tmp 35) 22 rfl elem_int key rfl o1 rfl rfl (by omega) (by have := ch1.size; omega) ?_; intro v3 w3 o3 ch3 at3; obtain ⟨A3, c3, rfl⟩ := o3.form; replace k0 := blk_chg k0 ch3 n1; replace ck0 := k0.cell; replace fk0 := k0.frozen)
  have n3 := own_blk_ne o3 k0 (by decide)
  have o4 := o3.set_ne (p := ⟨g, 2, none⟩) (.slice A3 (r.keys ++ [key]).length c3) (fun b hb he => n3 (by rw [hb, he]))
  have hap := own_apart o1 o2 (by decide)
  have o5 := (o2.chg ch3 fun b hb hs => hap b hs hb).set_ne (p := ⟨g, 2, none⟩) (.slice A3 (r.keys ++ [key]).length c3) (fun b hb he => n2 (by rw [hb, he]))
  have ch4 := (ch1.trans ch3 fun i _ hs => (o1.at_ hs).1).setCell (p := ⟨g, 2, none⟩) (.inl hbg) (.slice A3 (r.keys ++ [key]).length c3)
  replace k0 := k0.set_ 2 (.slice A3 (r.keys ++ [key]).length c3)
  simp only [List.setIfInBounds_toArray, List.set_cons_zero, List.set_cons_succ] at k0
  simp only [List.length_append, List.length_cons, List.length_nil, Nat.zero_add] at k0 o4 o5 ch4 n3
  clear o3 at3 ck0 fk0 ch3
  generalize w3.setCell ⟨g, 2, none⟩ (.slice A3 (r.keys.length + 1) c3) = w4 at *
  refine leaves_cons (f := 79) (args := #[.pointer (some ⟨g, 0, none⟩)]) (by simp) (by simp [go_sem]) ?_
  refine (unlock_deferred muLib ⟨g, 0, none⟩ .returning _ ?_ ?_).mono ?_
  · exact k0.cell 0
  · exact k0.frozen 0
  rintro e u' w'' ⟨rfl, rfl, rfl⟩
  replace k0 := k0.set_ 0 (.int .i32 0)
  simp only [List.setIfInBounds_toArray, List.set_cons_zero, List.set_cons_succ] at k0
  exact ⟨_, results_tmp rfl _ _ _, rfl, ⟨hbg, _, _, k0, o4.set_ne _ (fun b hb he => n3 (by rw [hb, he])), o5.set_ne _ (fun b hb he => n2 (by rw [hb, he]))⟩, ch4.setCell (p := ⟨g, 0, none⟩) (.inl hbg) _⟩
set_option maxHeartbeats 1000000 in
theorem turn_no (r : Rg) (key : Int) (g base : Nat) (w : World) (h : Gd w base g r) (hk : decide (key ∈ r.keys) = true ∨ (decide (key ∈ r.keys) = false ∧ r.keys.length = 9)) (h64 : ∀ x ∈ r.keys, In64 x) :
    Calls Try.prog 65 #[.pointer (some ⟨g, 0, none⟩), .int .i64 key] w fun e w' => e = .returned (.bool false) ∧ Gd w' base g r ∧ Chg (fun b => base ≤ b) w w' := by
  have H64 := Lib.hid h64; clear h64
  rcases hk with hk | ⟨hk, h9⟩
  · obtain ⟨hbg, va, vb, k0, ho⟩ := h
    obtain ⟨A, c, rfl⟩ := ho.keys.form
    obtain ⟨B, d, rfl⟩ := ho.grs.form
    have c0 : w.cell? ⟨g, 0, none⟩ = some (.int .i32 0) := k0.cell 0
    have f0 := k0.frozen 0
    have n1 := own_blk_ne ho.keys k0 (by decide)
    have n2 := own_blk_ne ho.grs k0 (by decide)
    have hgl := k0.lt
    have o1 := ho.keys.set_ne (p := ⟨g, 0, none⟩) (.int .i32 1) (fun b hb he => n1 (by rw [hb, he]))
    have o2 := ho.grs.set_ne (p := ⟨g, 0, none⟩) (.int .i32 1) (fun b hb he => n2 (by rw [hb, he]))
    have ch1 : Chg (fun b => base ≤ b) w (w.setCell ⟨g, 0, none⟩ (.int .i32 1)) := (Chg.refl _ _).setCell (p := ⟨g, 0, none⟩) (.inl hbg) _
    go_enter_defers Try.func65, Try.ntmps65
    go_wp2_with (go_at_call 78; refine (lock_free muLib ⟨g, 0, none⟩ _ c0 f0).mono ?_; rintro e w' ⟨rfl, rfl⟩; replace k0 := k0.set_ 0 (.int .i32 1); simp only [List.setIfInBounds_toArray, List.set_cons_zero, List.set_cons_succ] at k0; clear c0 f0 ho; generalize w.setCell ⟨g, 0, none⟩ (.int .i32 1) = w1 at *; have ck0 := k0.cell; have fk0 := k0.frozen)
    refine (contains_int key r.keys _ _ _ _ _ _ (o1.sl H64.out (Nat.le_refl _))).mono ?_
    rintro e w2 ⟨rfl, rfl⟩
    go_wp2_with fail
    refine leaves_cons (f := 79) (args := #[.pointer (some ⟨g, 0, none⟩)]) (by simp) (by simp [go_sem]) ?_
    refine (unlock_deferred muLib ⟨g, 0, none⟩ .returning _ ?_ ?_).mono ?_
    · exact k0.cell 0
    · exact k0.frozen 0
    rintro e u' w'' ⟨rfl, rfl, rfl⟩
    replace k0 := k0.set_ 0 (.int .i32 0)
    simp only [List.setIfInBounds_toArray, List.set_cons_zero, List.set_cons_succ] at k0
    exact ⟨_, results_tmp rfl _ _ _, rfl, ⟨hbg, _, _, k0, o1.set_ne _ (fun b hb he => n1 (by rw [hb, he])), o2.set_ne _ (fun b hb he => n2 (by rw [hb, he]))⟩, ch1.setCell (p := ⟨g, 0, none⟩) (.inl hbg) _⟩
  · have t9 : ((r.keys.length : Int) == 9) = true := by rw [beq_iff_eq]; omega
    have H9 := Lib.hid h9; clear h9
    obtain ⟨hbg, va, vb, k0, ho⟩ := h
    obtain ⟨A, c, rfl⟩ := ho.keys.form
    obtain ⟨B, d, rfl⟩ := ho.grs.form
    have c0 : w.cell? ⟨g, 0, none⟩ = some (.int .i32 0) := k0.cell 0
    have f0 := k0.frozen 0
    have n1 := own_blk_ne ho.keys k0 (by decide)
    have n2 := own_blk_ne ho.grs k0 (by decide)
    have hgl := k0.lt
    have o1 := ho.keys.set_ne (p := ⟨g, 0, none⟩) (.int .i32 1) (fun b hb he => n1 (by rw [hb, he]))
    have o2 := ho.grs.set_ne (p := ⟨g, 0, none⟩) (.int .i32 1) (fun b hb he => n2 (by rw [hb, he]))
    have ch1 : Chg (fun b => base ≤ b) w (w.setCell ⟨g, 0, none⟩ (.int .i32 1)) := (Chg.refl _ _).setCell (p := ⟨g, 0, none⟩) (.inl hbg) _
    go_enter_defers Try.func65, Try.ntmps65
    go_wp2_with (go_at_call 78; refine (lock_free muLib ⟨g, 0, none⟩ _ c0 f0).mono ?_; rintro e w' ⟨rfl, rfl⟩; replace k0 := k0.set_ 0 (.int .i32 1); simp only [List.setIfInBounds_toArray, List.set_cons_zero, List.set_cons_succ] at k0; clear c0 f0 ho; generalize w.setCell ⟨g, 0, none⟩ (.int .i32 1) = w1 at *; have ck0 := k0.cell; have fk0 := k0.frozen)
    refine (contains_int key r.keys _ _ _ _ _ _ (o1.sl H64.out (Nat.le_refl _))).mono ?_
    rintro e w2 ⟨rfl, rfl⟩
    go_wp2_with fail
    refine leaves_cons (f := 79) (args := #[.pointer (some ⟨g, 0, none⟩)]) (by simp) (by simp [go_sem]) ?_
    refine (unlock_deferred muLib ⟨g, 0, none⟩ .returning _ ?_ ?_).mono ?_
    · exact k0.cell 0
    · exact k0.frozen 0
    rintro e u' w'' ⟨rfl, rfl, rfl⟩
    replace k0 := k0.set_ 0 (.int .i32 0)
    simp only [List.setIfInBounds_toArray, List.set_cons_zero, List.set_cons_succ] at k0
    exact ⟨_, results_tmp rfl _ _ _, rfl, ⟨hbg, _, _, k0, o1.set_ne _ (fun b hb he => n1 (by rw [hb, he])), o2.set_ne _ (fun b hb he => n2 (by rw [hb, he]))⟩, ch1.setCell (p := ⟨g, 0, none⟩) (.inl hbg) _⟩
end Go.Proofs.Ytdbeclnoaeiaeaa
