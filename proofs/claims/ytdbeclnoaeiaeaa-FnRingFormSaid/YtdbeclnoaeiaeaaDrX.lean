


/- The draws of rings with what is drawn beside them. -/
import Derived.Test.YtdbeclnoaeiaeaaDrR
namespace Go.Proofs.Ytdbeclnoaeiaeaa
open Go.RowKit

theorem OwnRg.past {w w' : World} {base g : Nat} {va vb : Value} {r : Rg} (h : OwnRg w base va vb r) (hc : Chg (fun b => b = g) w w') (hg : g < base) : OwnRg w' base va vb r :=
  ⟨h.keys.chg hc fun b hb e => (by have := (h.keys.at_ hb).1; omega), h.grs.chg hc fun b hb e => (by have := (h.grs.at_ hb).1; omega)⟩
theorem OwnRg.two {w : World} {base gz : Nat} {va vb : Value} {r : Rg} {cs : Array Value} (h : OwnRg w base va vb r) (hk : Blk w gz 30 cs) (u v : Value) {b : Nat} (hb : b ≤ base) : OwnRg ((w.setCell ⟨gz, 0, none⟩ u).setCell ⟨gz, 1, none⟩ v) b va vb r :=
  OwnRg.base ⟨h.keys.chg (chg_two w gz u v) (rg_blk_ne h.keys hk (by decide)), h.grs.chg (chg_two w gz u v) (rg_blk_ne h.grs hk (by decide))⟩ hb

theorem in64_small {n : Int} (h : -1000000 ≤ n ∧ n ≤ 1000000) : In64 n := by unfold In64; omega
def DrawTurnPost (w : World) (e : Ending) (w' : World) : Prop :=
  ∃ va vb rr, ∃ k : Int, e = .returned (.tuple #[.agg #[va, vb], .int .i64 k]) ∧ OwnRg w' w.heap.size va vb rr ∧ Fine rr 12 ∧ (0 ≤ k ∧ k ≤ 110) ∧ Below w.heap.size w w'
set_option maxHeartbeats 1000000 in
theorem drawRingTurn_any (l : List Int) (A : Option Addr) (n c : Nat) (w : World) (h : RSl RByte 1 w 0 w.heap.size l [.slice A n c]) :
    Calls Try.prog 31 #[.slice A n c] w (DrawTurnPost w) := by
  go_enter Try.func31, Try.ntmps31
  go_wp2_with fail
  have hbw0 : Below w.heap.size w (w.alloc (.cells #[.slice none 0 0, .slice none 0 0] 30)) := below_alloc _ _
  have k0 : Blk (w.alloc (.cells #[.slice none 0 0, .slice none 0 0] 30)) (w.heap.size) 30 #[.slice none 0 0, .slice none 0 0] := by
    have hk := Blk.new w 30 #[.slice none 0 0, .slice none 0 0]
    exact hk
  have hsw0 : w.heap.size + 1 ≤ (w.alloc (.cells #[.slice none 0 0, .slice none 0 0] 30)).heap.size := by simp only [World.size_alloc]; omega
  generalize (w.alloc (.cells #[.slice none 0 0, .slice none 0 0] 30)) = w0 at *
  have ck0 := k0.cell
  have fk0 := k0.frozen
  refine (open_any l A n c w0 0 w.heap.size (sl_keep RByte.loc h hbw0 (Nat.le_refl _)) hbw0.size).mono ?_
  rintro e w1 ⟨g, rfl, hr, hg, hb1⟩
  replace k0 := blk_keep k0 hb1
  replace ck0 := k0.cell
  replace fk0 := k0.frozen
  replace hbw0 := below_below hbw0 hb1
  have hgl := hr.lt
  go_wp2_with fail
  refine (l92Ring_any _ g 0 _ _ _ hr (by omega)).mono ?_
  rintro e w2 ⟨va, vb, rr, q, rfl, o2, f2, hr2, hq, hc2⟩
  clear hr
  obtain ⟨A1, c1, rfl⟩ := o2.keys.form
  obtain ⟨B1, d1, rfl⟩ := o2.grs.form
  replace k0 := blk_chg k0 hc2 (by omega)
  replace ck0 := k0.cell
  replace fk0 := k0.frozen
  have hgw : w.heap.size ≤ g := by omega
  replace hbw0 := below_chg hbw0 hc2 (fun i hi => by omega)
  have HF := Lib.hid f2; clear f2
  go_wp2_with fail
  refine (pick_any _ _ _ _ _ _ 31 hr2 (by omega)).mono ?_
  rintro e w3 ⟨v3, rfl, ⟨_, hp⟩, hr3, hc3⟩
  obtain ⟨pv3, qv3⟩ := hp (by omega)
  clear hp
  replace hr2 := hr3
  replace k0 := blk_chg k0 hc3 (by omega)
  replace ck0 := k0.cell
  replace fk0 := k0.frozen
  replace hbw0 := below_chg hbw0 hc3 (fun i hi => by omega)
  replace o2 := o2.past hc3 (by omega)
  clear hc3 hr3
  go_wp2_with fail
  refine (pick_any _ _ _ _ _ _ 24 hr2 (by omega)).mono ?_
  rintro e w4 ⟨v4, rfl, ⟨_, hp⟩, hr3, hc3⟩
  obtain ⟨pv4, qv4⟩ := hp (by omega)
  clear hp
  replace hr2 := hr3
  replace k0 := blk_chg k0 hc3 (by omega)
  replace ck0 := k0.cell
  replace fk0 := k0.frozen
  replace hbw0 := below_chg hbw0 hc3 (fun i hi => by omega)
  replace o2 := o2.past hc3 (by omega)
  clear hc3 hr3
  go_wp2_with fail
  exact bodyPost_ret (v := .tuple #[.agg #[_, _], .int .i64 (v3 + v4 / 23 * 80)]) (by simp [results, Try.results31, go_sem, ck0]) rfl ⟨_, _, _, _, rfl, o2.two k0 _ _ (by omega), HF.out, ⟨by omega, by omega⟩, (hbw0.setCell (by simp) _).setCell (by simp) _⟩

def DrawManyPost (w : World) (e : Ending) (w' : World) : Prop :=
  ∃ va vb rr, ∃ k : Int, e = .returned (.tuple #[.agg #[va, vb], .int .i64 k]) ∧ OwnRg w' w.heap.size va vb rr ∧ Fine rr 12 ∧ (0 ≤ k ∧ k ≤ 5) ∧ Below w.heap.size w w'
set_option maxHeartbeats 1000000 in
theorem drawRingMany_any (l : List Int) (A : Option Addr) (n c : Nat) (w : World) (h : RSl RByte 1 w 0 w.heap.size l [.slice A n c]) :
    Calls Try.prog 30 #[.slice A n c] w (DrawManyPost w) := by
  go_enter Try.func30, Try.ntmps30
  go_wp2_with fail
  have hbw0 : Below w.heap.size w (w.alloc (.cells #[.slice none 0 0, .slice none 0 0] 30)) := below_alloc _ _
  have k0 : Blk (w.alloc (.cells #[.slice none 0 0, .slice none 0 0] 30)) (w.heap.size) 30 #[.slice none 0 0, .slice none 0 0] := by
    have hk := Blk.new w 30 #[.slice none 0 0, .slice none 0 0]
    exact hk
  have hsw0 : w.heap.size + 1 ≤ (w.alloc (.cells #[.slice none 0 0, .slice none 0 0] 30)).heap.size := by simp only [World.size_alloc]; omega
  generalize (w.alloc (.cells #[.slice none 0 0, .slice none 0 0] 30)) = w0 at *
  have ck0 := k0.cell
  have fk0 := k0.frozen
  refine (open_any l A n c w0 0 w.heap.size (sl_keep RByte.loc h hbw0 (Nat.le_refl _)) hbw0.size).mono ?_
  rintro e w1 ⟨g, rfl, hr, hg, hb1⟩
  replace k0 := blk_keep k0 hb1
  replace ck0 := k0.cell
  replace fk0 := k0.frozen
  replace hbw0 := below_below hbw0 hb1
  have hgl := hr.lt
  go_wp2_with fail
  refine (l92Ring_any _ g 0 _ _ _ hr (by omega)).mono ?_
  rintro e w2 ⟨va, vb, rr, q, rfl, o2, f2, hr2, hq, hc2⟩
  clear hr
  obtain ⟨A1, c1, rfl⟩ := o2.keys.form
  obtain ⟨B1, d1, rfl⟩ := o2.grs.form
  replace k0 := blk_chg k0 hc2 (by omega)
  replace ck0 := k0.cell
  replace fk0 := k0.frozen
  have hgw : w.heap.size ≤ g := by omega
  replace hbw0 := below_chg hbw0 hc2 (fun i hi => by omega)
  have HF := Lib.hid f2; clear f2
  go_wp2_with fail
  refine (pick_any _ _ _ _ _ _ 6 hr2 (by omega)).mono ?_
  rintro e w3 ⟨v3, rfl, ⟨_, hp⟩, hr3, hc3⟩
  obtain ⟨pv3, qv3⟩ := hp (by omega)
  clear hp
  replace hr2 := hr3
  replace k0 := blk_chg k0 hc3 (by omega)
  replace ck0 := k0.cell
  replace fk0 := k0.frozen
  replace hbw0 := below_chg hbw0 hc3 (fun i hi => by omega)
  replace o2 := o2.past hc3 (by omega)
  clear hc3 hr3
  go_wp2_with fail
  exact bodyPost_ret (v := .tuple #[.agg #[_, _], .int .i64 v3]) (by simp [results, Try.results30, go_sem, ck0]) rfl ⟨_, _, _, _, rfl, o2.two k0 _ _ (by omega), HF.out, ⟨by omega, by omega⟩, (hbw0.setCell (by simp) _).setCell (by simp) _⟩

def DrawLetPost (w : World) (e : Ending) (w' : World) : Prop :=
  ∃ va vb rr, ∃ (k : Int) (b : Bool), e = .returned (.tuple #[.agg #[va, vb], .int .i64 k, .bool b]) ∧ OwnRg w' w.heap.size va vb rr ∧ Fine rr 12 ∧ (0 ≤ k ∧ k ≤ 5) ∧ Below w.heap.size w w'
set_option maxHeartbeats 1000000 in
theorem drawRingLet_any (l : List Int) (A : Option Addr) (n c : Nat) (w : World) (h : RSl RByte 1 w 0 w.heap.size l [.slice A n c]) :
    Calls Try.prog 42 #[.slice A n c] w (DrawLetPost w) := by
  go_enter Try.func42, Try.ntmps42
  go_wp2_with fail
  have hbw0 : Below w.heap.size w (w.alloc (.cells #[.slice none 0 0, .slice none 0 0] 30)) := below_alloc _ _
  have k0 : Blk (w.alloc (.cells #[.slice none 0 0, .slice none 0 0] 30)) (w.heap.size) 30 #[.slice none 0 0, .slice none 0 0] := by
    have hk := Blk.new w 30 #[.slice none 0 0, .slice none 0 0]
    exact hk
  have hsw0 : w.heap.size + 1 ≤ (w.alloc (.cells #[.slice none 0 0, .slice none 0 0] 30)).heap.size := by simp only [World.size_alloc]; omega
  generalize (w.alloc (.cells #[.slice none 0 0, .slice none 0 0] 30)) = w0 at *
  have ck0 := k0.cell
  have fk0 := k0.frozen
  refine (open_any l A n c w0 0 w.heap.size (sl_keep RByte.loc h hbw0 (Nat.le_refl _)) hbw0.size).mono ?_
  rintro e w1 ⟨g, rfl, hr, hg, hb1⟩
  replace k0 := blk_keep k0 hb1
  replace ck0 := k0.cell
  replace fk0 := k0.frozen
  replace hbw0 := below_below hbw0 hb1
  have hgl := hr.lt
  go_wp2_with fail
  refine (l92Ring_any _ g 0 _ _ _ hr (by omega)).mono ?_
  rintro e w2 ⟨va, vb, rr, q, rfl, o2, f2, hr2, hq, hc2⟩
  clear hr
  obtain ⟨A1, c1, rfl⟩ := o2.keys.form
  obtain ⟨B1, d1, rfl⟩ := o2.grs.form
  replace k0 := blk_chg k0 hc2 (by omega)
  replace ck0 := k0.cell
  replace fk0 := k0.frozen
  have hgw : w.heap.size ≤ g := by omega
  replace hbw0 := below_chg hbw0 hc2 (fun i hi => by omega)
  have HF := Lib.hid f2; clear f2
  go_wp2_with fail
  refine (pick_any _ _ _ _ _ _ 6 hr2 (by omega)).mono ?_
  rintro e w3 ⟨v3, rfl, ⟨_, hp⟩, hr3, hc3⟩
  obtain ⟨pv3, qv3⟩ := hp (by omega)
  clear hp
  replace hr2 := hr3
  replace k0 := blk_chg k0 hc3 (by omega)
  replace ck0 := k0.cell
  replace fk0 := k0.frozen
  replace hbw0 := below_chg hbw0 hc3 (fun i hi => by omega)
  replace o2 := o2.past hc3 (by omega)
  clear hc3 hr3
  go_wp2_with fail
  refine (pick_any _ _ _ _ _ _ 2 hr2 (by omega)).mono ?_
  rintro e w4 ⟨v4, rfl, ⟨_, hp⟩, hr3, hc3⟩
  obtain ⟨pv4, qv4⟩ := hp (by omega)
  clear hp
  replace hr2 := hr3
  replace k0 := blk_chg k0 hc3 (by omega)
  replace ck0 := k0.cell
  replace fk0 := k0.frozen
  replace hbw0 := below_chg hbw0 hc3 (fun i hi => by omega)
  replace o2 := o2.past hc3 (by omega)
  clear hc3 hr3
  go_wp2_with fail
  exact bodyPost_ret (v := .tuple #[.agg #[_, _], .int .i64 v3, .bool (v4 == 0)]) (by simp [results, Try.results42, go_sem, ck0]) rfl ⟨_, _, _, _, _, rfl, o2.two k0 _ _ (by omega), HF.out, ⟨by omega, by omega⟩, (hbw0.setCell (by simp) _).setCell (by simp) _⟩

def DrawKeyPost (w : World) (e : Ending) (w' : World) : Prop :=
  ∃ va vb rr, ∃ m k : Int, e = .returned (.tuple #[.agg #[va, vb], .int .i64 m, .int .i64 k]) ∧ OwnRg w' w.heap.size va vb rr ∧ Fine rr 12 ∧ (1 ≤ m ∧ m ≤ 4) ∧ (0 ≤ k ∧ k ≤ rr.keys.length + 1) ∧ Below w.heap.size w w'
set_option maxHeartbeats 2000000 in
theorem drawRingKey_any (l : List Int) (A : Option Addr) (n c : Nat) (w : World) (h : RSl RByte 1 w 0 w.heap.size l [.slice A n c]) :
    Calls Try.prog 27 #[.slice A n c] w (DrawKeyPost w) := by
  go_enter Try.func27, Try.ntmps27
  go_wp2_with fail
  have hbw0 : Below w.heap.size w (w.alloc (.cells #[.slice none 0 0, .slice none 0 0] 30)) := below_alloc _ _
  have k0 : Blk (w.alloc (.cells #[.slice none 0 0, .slice none 0 0] 30)) (w.heap.size) 30 #[.slice none 0 0, .slice none 0 0] := by
    have hk := Blk.new w 30 #[.slice none 0 0, .slice none 0 0]
    exact hk
  have hsw0 : w.heap.size + 1 ≤ (w.alloc (.cells #[.slice none 0 0, .slice none 0 0] 30)).heap.size := by simp only [World.size_alloc]; omega
  generalize (w.alloc (.cells #[.slice none 0 0, .slice none 0 0] 30)) = w0 at *
  have ck0 := k0.cell
  have fk0 := k0.frozen
  refine (open_any l A n c w0 0 w.heap.size (sl_keep RByte.loc h hbw0 (Nat.le_refl _)) hbw0.size).mono ?_
  rintro e w1 ⟨g, rfl, hr, hg, hb1⟩
  replace k0 := blk_keep k0 hb1
  replace ck0 := k0.cell
  replace fk0 := k0.frozen
  replace hbw0 := below_below hbw0 hb1
  have hgl := hr.lt
  go_wp2_with fail
  refine (l92Ring_any _ g 0 _ _ _ hr (by omega)).mono ?_
  rintro e w2 ⟨va, vb, rr, q, rfl, o2, f2, hr2, hq, hc2⟩
  clear hr
  obtain ⟨A1, c1, rfl⟩ := o2.keys.form
  obtain ⟨B1, d1, rfl⟩ := o2.grs.form
  replace k0 := blk_chg k0 hc2 (by omega)
  replace ck0 := k0.cell
  replace fk0 := k0.frozen
  have hgw : w.heap.size ≤ g := by omega
  replace hbw0 := below_chg hbw0 hc2 (fun i hi => by omega)
  have HF := Lib.hid f2; clear f2
  have ax := below_alloc w2 (.cells #[.slice A1 rr.keys.length c1, .slice B1 rr.grs.length d1] 30)
  go_wp2_with fail
  have hbwx : Below w2.heap.size w2 (w2.alloc (.cells #[.slice A1 rr.keys.length c1, .slice B1 rr.grs.length d1] 30)) := below_alloc _ _
  have m0 : Blk (w2.alloc (.cells #[.slice A1 rr.keys.length c1, .slice B1 rr.grs.length d1] 30)) (w2.heap.size) 30 #[.slice A1 rr.keys.length c1, .slice B1 rr.grs.length d1] := by
    have hk := Blk.new w2 30 #[.slice A1 rr.keys.length c1, .slice B1 rr.grs.length d1]
    exact hk
  have hswx : w2.heap.size + 1 ≤ (w2.alloc (.cells #[.slice A1 rr.keys.length c1, .slice B1 rr.grs.length d1] 30)).heap.size := by simp only [World.size_alloc]; omega
  generalize (w2.alloc (.cells #[.slice A1 rr.keys.length c1, .slice B1 rr.grs.length d1] 30)) = wx at *
  have cm0 := m0.cell
  have fm0 := m0.frozen
  replace k0 := blk_keep k0 hbwx
  replace ck0 := k0.cell
  replace fk0 := k0.frozen
  have hrx := hr2.chg (Chg.of_below (S := fun _ => False) hbwx) (fun _ _ h => h)
  clear hr2
  replace hbw0 := below_below hbw0 hbwx
  replace o2 := o2.below hbwx
  have z2 := hc2.size
  have zx := hbwx.size
  have hbxx : ∀ b, some w.heap.size = some b → b ≠ g ∧ w.heap.size ≤ b ∧ ∃ cs : Array Value, cs.size = 2 ∧ Blk wx b 30 cs := fun b hb => by cases hb; exact ⟨by omega, Nat.le_refl _, _, rfl, k0⟩
  have hl12 := HF.out.keys
  have cma : wx.cell? ⟨w2.heap.size, 0, none⟩ = some (.slice A1 rr.keys.length c1) := m0.cell 0
  have hne : Nonempty (PastS wx 0 w.heap.size g (l.take 2000) (q + 13) 10 99 99 w.heap.size true 30 2 (fun _ => False) []) := st_some hrx (by omega) (some w.heap.size) (fun b hb => by cases hb; rfl) (fun _ => rfl) (fun b hb => hb.elim) hbxx
  have past0 := fun x : PastS wx 0 w.heap.size g (l.take 2000) (q + 13) 10 99 99 w.heap.size true 30 2 (fun _ => False) [] => pasts_cell cma (x := x) (by show w2.heap.size ≠ g; omega) (by show w2.heap.size ≠ _; omega) (fun h => h)
  refine region_stT (N := q + 13) (s := 10) (ia := 99) (ic := 99) (bk := w.heap.size) (fx := true) (ty := 30) (n := 2) (S := fun _ => False) (pre := []) 13 q [1, 4, 5, 6, 7, 8] [0, 2, 3, 9, 10, 11, 12] (by kernel_rfl) (by kernel_rfl) (by kernel_rfl) hrx (Nat.le_refl _) (some w.heap.size) (fun b hb => by cases hb; rfl) (fun _ => rfl) (fun b hb => hb.elim) hbxx (.inr (by decide)) ?_
  simp only [pick, List.map, List.getD_cons_zero, List.getD_cons_succ]
  repeat (go_big_quiet_step (fail))
  refine wpQuiet_nil ?_
  clear past0 hne
  apply Exists.intro
  apply st_look (fun v => v = .agg #[.slice A1 rr.keys.length c1, .slice B1 rr.grs.length d1])
  · rfl
  · intro x _ Qx hQ'
    have hQ := Lib.hid hQ'; clear hQ'
    have ca := pasts_cell (x := x) (m0.cell 0) (by show w2.heap.size ≠ g; omega) (by show w2.heap.size ≠ _; omega) (fun h => h)
    have cb := pasts_cell (x := x) (m0.cell 1) (by show w2.heap.size ≠ g; omega) (by show w2.heap.size ≠ _; omega) (fun h => h)
    go_wp2_with fail
    exact hQ.out _ rfl
  intro ux
  simp only [Act.put, List.setIfInBounds_toArray, List.set_cons_zero, List.set_cons_succ]
  apply st_pick (fun v => ∃ m : Int, v = .int .i64 m ∧ 0 ≤ m ∧ m < 4)
  · rfl
  · intro x _ hN Qx hQ'
    have hQ := Lib.hid hQ'; clear hQ'
    go_wp2_with fail
    refine (pick_any _ _ _ _ _ _ 4 x.rd (by omega)).mono ?_
    rintro e wy ⟨m, rfl, ⟨_, q1⟩, rdy, hcy⟩
    obtain ⟨q2, q3⟩ := q1 (by omega)
    go_wp2_with fail
    exact hQ.out _ _ rdy hcy ⟨m, rfl, q2, q3⟩
  intro u2
  simp only [Act.put, List.setIfInBounds_toArray, List.set_cons_zero, List.set_cons_succ]
  apply st_look (fun v => ∃ m : Int, v = .int .i64 m ∧ 1 ≤ m ∧ m ≤ 4)
  · rfl
  · intro x hF Qx hQ'
    have hQ := Lib.hid hQ'; clear hQ'
    obtain ⟨m, rfl, q1, q2⟩ := hF.1 (by kernel_rfl)
    go_wp2_with fail
    exact hQ.out _ ⟨_, rfl, by omega, by omega⟩
  intro u3
  simp only [Act.put, List.setIfInBounds_toArray, List.set_cons_zero, List.set_cons_succ]
  apply st_pick (fun v => ∃ m : Int, v = .int .i64 m ∧ 0 ≤ m ∧ m < ((rr.keys.length : Int) + 2))
  · rfl
  · intro x _ hN Qx hQ'
    have hQ := Lib.hid hQ'; clear hQ'
    go_wp2_with fail
    refine (pick_any _ _ _ _ _ _ ((rr.keys.length : Int) + 2) x.rd (by omega)).mono ?_
    rintro e wy ⟨m, rfl, ⟨_, q1⟩, rdy, hcy⟩
    obtain ⟨q2, q3⟩ := q1 (by omega)
    go_wp2_with fail
    exact hQ.out _ _ rdy hcy ⟨m, rfl, q2, q3⟩
  intro u9
  simp only [Act.put, List.setIfInBounds_toArray, List.set_cons_zero, List.set_cons_succ]
  apply st_store (fun x => x.done = true ∧ Blk x.to w.heap.size 30 #[.slice A1 rr.keys.length c1, .slice B1 rr.grs.length d1])
  · rfl
  · exact fun j hj => (by cases hj)
  · exact fun x y h hl => by
      obtain ⟨h1, _, h3⟩ := hl.full h.1 (x.bf rfl) h.2
      exact ⟨h1, h3⟩
  · intro x hF hdn Qx hQ'
    have hQ := Lib.hid hQ'; clear hQ'
    have hbx := x.bf rfl
    cases hF.2.2.2.1 (by kernel_rfl)
    clear hF
    obtain ⟨hbg, hbh, cs, hcs, hkb⟩ := x.bx _ hbx
    obtain ⟨ca, cb, rfl⟩ := pair_of hcs
    have ckb := hkb.cell
    have fkb := hkb.frozen
    go_wp2_with fail
    exact hQ.out _ hbx _ (chg_two _ _ _ _) _ rfl ((hkb.set_ 0 _).set_ 1 _) ⟨rfl, (hkb.set_ 0 _).set_ 1 _⟩
  · rfl
  simp only [Act.put, List.setIfInBounds_toArray, List.set_cons_zero, List.set_cons_succ]
  apply st_look (fun v => ∃ m : Int, v = .int .i64 m ∧ 1 ≤ m ∧ m ≤ 4)
  · rfl
  · intro x hF Qx hQ'
    have hQ := Lib.hid hQ'; clear hQ'
    obtain ⟨m, rfl, q1, q2⟩ := hF.2.2.1 (by kernel_rfl)
    go_wp2_with fail
    exact hQ.out _ ⟨_, rfl, q1, q2⟩
  intro u11
  simp only [Act.put, List.setIfInBounds_toArray, List.set_cons_zero, List.set_cons_succ]
  apply st_look (fun v => ∃ m : Int, v = .int .i64 m ∧ 0 ≤ m ∧ m < (rr.keys.length : Int) + 2)
  · rfl
  · intro x hF Qx hQ'
    have hQ := Lib.hid hQ'; clear hQ'
    obtain ⟨m, rfl, q1, q2⟩ := hF.2.2.1 (by kernel_rfl)
    go_wp2_with fail
    exact hQ.out _ ⟨_, rfl, q1, q2⟩
  intro u12
  simp only [Act.put, List.setIfInBounds_toArray, List.set_cons_zero, List.set_cons_succ]
  refine st_end fun x hF => ?_
  simp only [allF] at hF
  obtain ⟨⟨k12, rfl, r1, r2⟩, ⟨k11, rfl, r3, r4⟩, ⟨hdn, k7⟩, -⟩ := hF
  have o7 : OwnRg x.to w.heap.size _ _ rr := (x.rg o2 (by omega) (fun b hb => by have := (o2.keys.at_ hb).1; omega) (fun b hb => by have := (o2.grs.at_ hb).1; omega) (fun _ h => h)).base (by omega)
  have hb7 := below_chg hbw0 x.ok (fun i hi => by
    rcases hi with h | h | h
    · omega
    · rw [x.bf rfl] at h; cases h; exact Nat.le_refl _
    · exact h.2.elim)
  have ck7 := k7.cell
  simp only [List.drop]
  go_wp2_with fail
  exact bodyPost_ret (v := .tuple #[.agg #[_, _], .int .i64 k11, .int .i64 k12]) (by simp [results, Try.results27, go_sem, ck7]) rfl ⟨_, _, _, _, _, rfl, o7, HF.out, ⟨by omega, by omega⟩, ⟨by omega, by omega⟩, hb7⟩

def DrawShutPost (w : World) (e : Ending) (w' : World) : Prop :=
  ∃ va vb rr, ∃ m k : Int, e = .returned (.tuple #[.agg #[va, vb], .int .i64 m, .int .i64 k]) ∧ OwnRg w' w.heap.size va vb rr ∧ Fine rr 12 ∧ In64 m ∧ (1 ≤ k ∧ k ≤ 40) ∧ Below w.heap.size w w'
set_option maxHeartbeats 2000000 in
theorem drawRingShut_any (l : List Int) (A : Option Addr) (n c : Nat) (w : World) (h : RSl RByte 1 w 0 w.heap.size l [.slice A n c]) :
    Calls Try.prog 39 #[.slice A n c] w (DrawShutPost w) := by
  go_enter Try.func39, Try.ntmps39
  go_wp2_with fail
  have hbw0 : Below w.heap.size w (w.alloc (.cells #[.slice none 0 0, .slice none 0 0] 30)) := below_alloc _ _
  have k0 : Blk (w.alloc (.cells #[.slice none 0 0, .slice none 0 0] 30)) (w.heap.size) 30 #[.slice none 0 0, .slice none 0 0] := by
    have hk := Blk.new w 30 #[.slice none 0 0, .slice none 0 0]
    exact hk
  have hsw0 : w.heap.size + 1 ≤ (w.alloc (.cells #[.slice none 0 0, .slice none 0 0] 30)).heap.size := by simp only [World.size_alloc]; omega
  generalize (w.alloc (.cells #[.slice none 0 0, .slice none 0 0] 30)) = w0 at *
  have ck0 := k0.cell
  have fk0 := k0.frozen
  refine (open_any l A n c w0 0 w.heap.size (sl_keep RByte.loc h hbw0 (Nat.le_refl _)) hbw0.size).mono ?_
  rintro e w1 ⟨g, rfl, hr, hg, hb1⟩
  replace k0 := blk_keep k0 hb1
  replace ck0 := k0.cell
  replace fk0 := k0.frozen
  replace hbw0 := below_below hbw0 hb1
  have hgl := hr.lt
  go_wp2_with fail
  refine (l92Ring_any _ g 0 _ _ _ hr (by omega)).mono ?_
  rintro e w2 ⟨va, vb, rr, q, rfl, o2, f2, hr2, hq, hc2⟩
  clear hr
  obtain ⟨A1, c1, rfl⟩ := o2.keys.form
  obtain ⟨B1, d1, rfl⟩ := o2.grs.form
  replace k0 := blk_chg k0 hc2 (by omega)
  replace ck0 := k0.cell
  replace fk0 := k0.frozen
  have hgw : w.heap.size ≤ g := by omega
  replace hbw0 := below_chg hbw0 hc2 (fun i hi => by omega)
  have HF := Lib.hid f2; clear f2
  have ax := below_alloc w2 (.cells #[.slice A1 rr.keys.length c1, .slice B1 rr.grs.length d1] 30)
  go_wp2_with fail
  have hbwx : Below w2.heap.size w2 (w2.alloc (.cells #[.slice A1 rr.keys.length c1, .slice B1 rr.grs.length d1] 30)) := below_alloc _ _
  have m0 : Blk (w2.alloc (.cells #[.slice A1 rr.keys.length c1, .slice B1 rr.grs.length d1] 30)) (w2.heap.size) 30 #[.slice A1 rr.keys.length c1, .slice B1 rr.grs.length d1] := by
    have hk := Blk.new w2 30 #[.slice A1 rr.keys.length c1, .slice B1 rr.grs.length d1]
    exact hk
  have hswx : w2.heap.size + 1 ≤ (w2.alloc (.cells #[.slice A1 rr.keys.length c1, .slice B1 rr.grs.length d1] 30)).heap.size := by simp only [World.size_alloc]; omega
  generalize (w2.alloc (.cells #[.slice A1 rr.keys.length c1, .slice B1 rr.grs.length d1] 30)) = wx at *
  have cm0 := m0.cell
  have fm0 := m0.frozen
  replace k0 := blk_keep k0 hbwx
  replace ck0 := k0.cell
  replace fk0 := k0.frozen
  have hrx := hr2.chg (Chg.of_below (S := fun _ => False) hbwx) (fun _ _ h => h)
  clear hr2
  replace hbw0 := below_below hbw0 hbwx
  replace o2 := o2.below hbwx
  have z2 := hc2.size
  have zx := hbwx.size
  have hbxx : ∀ b, some w.heap.size = some b → b ≠ g ∧ w.heap.size ≤ b ∧ ∃ cs : Array Value, cs.size = 2 ∧ Blk wx b 30 cs := fun b hb => by cases hb; exact ⟨by omega, Nat.le_refl _, _, rfl, k0⟩
  have hl12 := HF.out.keys
  have hg12 := HF.out.grs
  have cmb : wx.cell? ⟨w2.heap.size, 1, none⟩ = some (.slice B1 rr.grs.length d1) := m0.cell 1
  refine (pick_any _ _ _ _ _ _ 6 hrx (by omega)).mono ?_
  rintro e w3 ⟨v3, rfl, ⟨_, hp⟩, hr3, hc3⟩
  obtain ⟨p3, q3⟩ := hp (by omega)
  clear hp
  replace hrx := hr3
  replace k0 := blk_chg k0 hc3 (by omega)
  replace ck0 := k0.cell
  replace fk0 := k0.frozen
  replace m0 := blk_chg m0 hc3 (by omega)
  replace cm0 := m0.cell
  replace fm0 := m0.frozen
  replace hbw0 := below_chg hbw0 hc3 (fun i hi => by omega)
  replace o2 := o2.past hc3 (by omega)
  clear hc3
  by_cases hg0 : rr.grs.length = 0
  · have t0 : decide ((0 : Int) < (rr.grs.length : Int)) = false := decide_eq_false (by omega)
    have t00 : decide (0 < rr.grs.length) = false := decide_eq_false (by omega)
    clear hg0
    go_wp2_with fail
    have hbxx : ∀ b, some w.heap.size = some b → b ≠ g ∧ w.heap.size ≤ b ∧ ∃ cs : Array Value, cs.size = 2 ∧ Blk w3 b 30 cs := fun b hb => by cases hb; exact ⟨by omega, Nat.le_refl _, _, rfl, k0⟩
    refine region_stT (N := q + 40) (s := 5) (ia := 99) (ic := 99) (bk := w.heap.size) (fx := true) (ty := 30) (n := 2) (S := fun _ => False) (pre := []) 8 _ [1, 2] [0, 3, 4, 5, 6, 7] (by kernel_rfl) (by kernel_rfl) (by kernel_rfl) hrx (by omega) (some w.heap.size) (fun b hb => by cases hb; rfl) (fun _ => rfl) (fun b hb => hb.elim) hbxx (.inr (by decide)) ?_
    simp only [pick, List.map, List.getD_cons_zero, List.getD_cons_succ]
    repeat (go_big_quiet_step (fail))
    refine wpQuiet_nil ?_
    apply Exists.intro
    apply st_look (fun v => v = .agg #[.slice A1 rr.keys.length c1, .slice B1 rr.grs.length d1])
    · rfl
    · intro x _ Qx hQ'
      have hQ := Lib.hid hQ'; clear hQ'
      have ca := pasts_cell (x := x) (m0.cell 0) (by show w2.heap.size ≠ g; omega) (by show w2.heap.size ≠ _; omega) (fun h => h)
      have cb := pasts_cell (x := x) (m0.cell 1) (by show w2.heap.size ≠ g; omega) (by show w2.heap.size ≠ _; omega) (fun h => h)
      go_wp2_with fail
      exact hQ.out _ rfl
    intro ux
    simp only [Act.put, List.setIfInBounds_toArray, List.set_cons_zero, List.set_cons_succ]
    apply st_pick (fun v => ∃ m : Int, v = .int .i64 m ∧ 0 ≤ m ∧ m < 40)
    · rfl
    · intro x _ hN Qx hQ'
      have hQ := Lib.hid hQ'; clear hQ'
      go_wp2_with fail
      refine (pick_any _ _ _ _ _ _ 40 x.rd (by omega)).mono ?_
      rintro e wy ⟨m, rfl, ⟨_, q1⟩, rdy, hcy⟩
      obtain ⟨q2, q3⟩ := q1 (by omega)
      go_wp2_with fail
      exact hQ.out _ _ rdy hcy ⟨m, rfl, q2, q3⟩
    intro u3
    simp only [Act.put, List.setIfInBounds_toArray, List.set_cons_zero, List.set_cons_succ]
    apply st_look (fun v => ∃ m : Int, v = .int .i64 m ∧ 1 ≤ m ∧ m ≤ 40)
    · rfl
    · intro x hF Qx hQ'
      have hQ := Lib.hid hQ'; clear hQ'
      obtain ⟨m, rfl, q1, q2⟩ := hF.1 (by kernel_rfl)
      go_wp2_with fail
      exact hQ.out _ ⟨_, rfl, by omega, by omega⟩
    intro u4
    simp only [Act.put, List.setIfInBounds_toArray, List.set_cons_zero, List.set_cons_succ]
    apply st_store (fun x => x.done = true ∧ Blk x.to w.heap.size 30 #[.slice A1 rr.keys.length c1, .slice B1 rr.grs.length d1])
    · rfl
    · exact fun j hj => (by cases hj)
    · exact fun x y h hl => by
        obtain ⟨h1, _, h3⟩ := hl.full h.1 (x.bf rfl) h.2
        exact ⟨h1, h3⟩
    · intro x hF hdn Qx hQ'
      have hQ := Lib.hid hQ'; clear hQ'
      have hbx := x.bf rfl
      cases hF.2.2.1 (by kernel_rfl)
      clear hF
      obtain ⟨hbg, hbh, cs, hcs, hkb⟩ := x.bx _ hbx
      obtain ⟨ca, cb, rfl⟩ := pair_of hcs
      have ckb := hkb.cell
      have fkb := hkb.frozen
      go_wp2_with fail
      exact hQ.out _ hbx _ (chg_two _ _ _ _) _ rfl ((hkb.set_ 0 _).set_ 1 _) ⟨rfl, (hkb.set_ 0 _).set_ 1 _⟩
    · rfl
    simp only [Act.put, List.setIfInBounds_toArray, List.set_cons_zero, List.set_cons_succ]
    apply st_look (fun v => v = .int .i64 v3)
    · rfl
    · intro x hF Qx hQ'
      have hQ := Lib.hid hQ'; clear hQ'
      go_wp2_with fail
      exact hQ.out _ rfl
    intro u11
    simp only [Act.put, List.setIfInBounds_toArray, List.set_cons_zero, List.set_cons_succ]
    apply st_look (fun v => ∃ m : Int, v = .int .i64 m ∧ 1 ≤ m ∧ m ≤ 40)
    · rfl
    · intro x hF Qx hQ'
      have hQ := Lib.hid hQ'; clear hQ'
      obtain ⟨m, rfl, q1, q2⟩ := hF.2.2.1 (by kernel_rfl)
      go_wp2_with fail
      exact hQ.out _ ⟨_, rfl, q1, q2⟩
    intro u12
    simp only [Act.put, List.setIfInBounds_toArray, List.set_cons_zero, List.set_cons_succ]
    refine st_end fun x hF => ?_
    simp only [allF] at hF
    obtain ⟨⟨k12, rfl, r1, r2⟩, rfl, ⟨hdn, k7⟩, -⟩ := hF
    have o7 : OwnRg x.to w.heap.size _ _ rr := (x.rg o2 (by omega) (fun b hb => by have := (o2.keys.at_ hb).1; omega) (fun b hb => by have := (o2.grs.at_ hb).1; omega) (fun _ h => h)).base (by omega)
    have hb7 := below_chg hbw0 x.ok (fun i hi => by
      rcases hi with h | h | h
      · omega
      · rw [x.bf rfl] at h; cases h; exact Nat.le_refl _
      · exact h.2.elim)
    have ck7 := k7.cell
    simp only [List.drop]
    go_wp2_with fail
    exact bodyPost_ret (v := .tuple #[.agg #[_, _], .int .i64 v3, .int .i64 k12]) (by simp [results, Try.results39, go_sem, ck7]) rfl ⟨_, _, _, _, _, rfl, o7, HF.out, in64_small (by omega), ⟨by omega, by omega⟩, hb7⟩
  · have t0 : decide ((0 : Int) < (rr.grs.length : Int)) = true := decide_eq_true (by omega)
    have t00 : decide (0 < rr.grs.length) = true := decide_eq_true (by omega)
    go_wp2_with fail
    refine (pick_any _ _ _ _ _ _ 3 hrx (by omega)).mono ?_
    rintro e w4 ⟨v4, rfl, ⟨_, hp⟩, hr3, hc3⟩
    obtain ⟨p4, q4⟩ := hp (by omega)
    clear hp
    replace hrx := hr3
    replace k0 := blk_chg k0 hc3 (by omega)
    replace ck0 := k0.cell
    replace fk0 := k0.frozen
    replace m0 := blk_chg m0 hc3 (by omega)
    replace cm0 := m0.cell
    replace fm0 := m0.frozen
    replace hbw0 := below_chg hbw0 hc3 (fun i hi => by omega)
    replace o2 := o2.past hc3 (by omega)
    clear hc3
    by_cases hv4 : 0 < v4
    · have t1 : decide (0 < v4) = true := decide_eq_true hv4
      have hne : Nonempty (PastR w4 0 w.heap.size g (l.take 2000) (q + 20)) := ⟨⟨w4, q + 1 + 1, hrx, Chg.refl _ _, by omega⟩⟩
      have cmb : w4.cell? ⟨w2.heap.size, 1, none⟩ = some (.slice B1 rr.grs.length d1) := m0.cell 1
      obtain ⟨gg, cg, hge⟩ := o2.grs.some_ (by omega)
      simp only [Value.slice.injEq, true_and] at hge
      obtain ⟨hB, rfl⟩ := hge
      have hgat := o2.grs.at_ (g := gg) (by rw [hB]; rfl)
      have HB := Lib.hid hB; clear hB
      go_wp2_with fail
      have past0 := pastr_cell (lo := 0) (hi := w.heap.size) (l := l.take 2000) (g := g) (N := q + 20) cmb (by show w2.heap.size ≠ g; omega)
      refine region_rdT (N := q + 20) 10 (q + 1 + 1) [0, 1, 2, 3, 4, 5] [6, 7, 8, 9] (by kernel_rfl) (by kernel_rfl) (by kernel_rfl) hrx (by omega) ?_
      simp only [pick, List.map, List.getD_cons_zero, List.getD_cons_succ]
      repeat (go_big_quiet_step (fail))
      refine wpQuiet_nil ?_
      clear past0 hne
      apply Exists.intro
      apply rd_pick (fun v => ∃ m : Nat, v = .int .i64 m ∧ m < rr.grs.length)
      · rfl
      · intro x _ hN Qx hQ'
        have hQ := Lib.hid hQ'; clear hQ'
        go_wp2_with fail
        refine (pick_any _ _ _ _ _ _ (rr.grs.length : Int) x.rd (by omega)).mono ?_
        rintro e wy ⟨m, rfl, ⟨_, q1⟩, rdy, hcy⟩
        obtain ⟨q2, q3⟩ := q1 (by omega)
        obtain ⟨m, rfl⟩ := Int.eq_ofNat_of_zero_le q2
        go_wp2_with fail
        exact hQ.out _ _ rdy hcy ⟨m, rfl, by omega⟩
      intro u6
      simp only [Act.put, List.setIfInBounds_toArray, List.set_cons_zero, List.set_cons_succ]
      apply rd_any (fun v _ => ∃ m : Nat, v = .pointer (some ⟨gg, m * 3, none⟩) ∧ m < rr.grs.length)
      · rfl
      · exact fun v x y h _ => h
      · intro x hF Qx hQ'
        have hQ := Lib.hid hQ'; clear hQ'
        obtain ⟨m, rfl, h1⟩ := hF.1 (by kernel_rfl)
        have hB := HB.out
        subst hB
        go_wp2_with fail
        exact hQ.out _ _ (Below.refl _ _) ⟨m, by simp [Nat.mul_comm], h1⟩
      intro u7
      simp only [Act.put, List.setIfInBounds_toArray, List.set_cons_zero, List.set_cons_succ]
      apply rd_any (fun v _ => ∃ m : Nat, v = .pointer (some ⟨gg, m * 3, none⟩) ∧ m < rr.grs.length)
      · rfl
      · exact fun v x y h _ => h
      · intro x hF Qx hQ'
        have hQ := Lib.hid hQ'; clear hQ'
        obtain ⟨m, rfl, h1⟩ := hF.1 (by kernel_rfl)
        go_wp2_with fail
        exact hQ.out _ _ (Below.refl _ _) ⟨m, rfl, h1⟩
      intro u8
      simp only [Act.put, List.setIfInBounds_toArray, List.set_cons_zero, List.set_cons_succ]
      apply rd_any (fun v _ => ∃ k : Int, v = .int .i64 k ∧ In64 k)
      · rfl
      · exact fun v x y h _ => h
      · intro x hF Qx hQ'
        have hQ := Lib.hid hQ'; clear hQ'
        obtain ⟨m, rfl, h1⟩ := hF.1 (by kernel_rfl)
        obtain ⟨y, hy⟩ := some_of_lt h1
        have hB := HB.out
        subst hB
        have cy : x.to.cell? ⟨gg, m * 3, none⟩ = some (.int .i64 y.m) := pastr_cell (o2.grs.cell (F := FGr) (i := m) (j := 0) hy rfl) (by show gg ≠ g; omega) x
        go_wp2_with fail
        exact hQ.out _ _ (Below.refl _ _) ⟨_, rfl, (HF.out.good.grs y (List.mem_of_getElem? hy)).1⟩
      intro u9
      simp only [Act.put, List.setIfInBounds_toArray, List.set_cons_zero, List.set_cons_succ]
      refine rd_end fun x hF => ?_
      simp only [allF] at hF
      obtain ⟨⟨k9, rfl, in9⟩, -⟩ := hF
      have hr5 := x.rd
      have hc5 := x.ok
      have hql : x.q ≤ q + 20 := x.lim
      revert hr5 hc5 hql
      generalize x.to = w5
      generalize x.q = q5
      clear x
      intro hr5 hc5 hql
      replace hrx := hr5
      replace k0 := blk_chg k0 hc5 (by omega)
      replace ck0 := k0.cell
      replace fk0 := k0.frozen
      replace m0 := blk_chg m0 hc5 (by omega)
      replace cm0 := m0.cell
      replace fm0 := m0.frozen
      replace hbw0 := below_chg hbw0 hc5 (fun i hi => by omega)
      replace o2 := o2.past hc5 (by omega)
      clear hc5
      simp only [List.drop]
      go_wp2_with fail
      have hbxx : ∀ b, some w.heap.size = some b → b ≠ g ∧ w.heap.size ≤ b ∧ ∃ cs : Array Value, cs.size = 2 ∧ Blk w5 b 30 cs := fun b hb => by cases hb; exact ⟨by omega, Nat.le_refl _, _, rfl, k0⟩
      refine region_stT (N := q + 40) (s := 5) (ia := 99) (ic := 99) (bk := w.heap.size) (fx := true) (ty := 30) (n := 2) (S := fun _ => False) (pre := []) 8 _ [1, 2] [0, 3, 4, 5, 6, 7] (by kernel_rfl) (by kernel_rfl) (by kernel_rfl) hrx (by omega) (some w.heap.size) (fun b hb => by cases hb; rfl) (fun _ => rfl) (fun b hb => hb.elim) hbxx (.inr (by decide)) ?_
      simp only [pick, List.map, List.getD_cons_zero, List.getD_cons_succ]
      repeat (go_big_quiet_step (fail))
      refine wpQuiet_nil ?_
      apply Exists.intro
      apply st_look (fun v => v = .agg #[.slice A1 rr.keys.length c1, .slice B1 rr.grs.length d1])
      · rfl
      · intro x _ Qx hQ'
        have hQ := Lib.hid hQ'; clear hQ'
        have ca := pasts_cell (x := x) (m0.cell 0) (by show w2.heap.size ≠ g; omega) (by show w2.heap.size ≠ _; omega) (fun h => h)
        have cb := pasts_cell (x := x) (m0.cell 1) (by show w2.heap.size ≠ g; omega) (by show w2.heap.size ≠ _; omega) (fun h => h)
        go_wp2_with fail
        exact hQ.out _ rfl
      intro ux
      simp only [Act.put, List.setIfInBounds_toArray, List.set_cons_zero, List.set_cons_succ]
      apply st_pick (fun v => ∃ m : Int, v = .int .i64 m ∧ 0 ≤ m ∧ m < 40)
      · rfl
      · intro x _ hN Qx hQ'
        have hQ := Lib.hid hQ'; clear hQ'
        go_wp2_with fail
        refine (pick_any _ _ _ _ _ _ 40 x.rd (by omega)).mono ?_
        rintro e wy ⟨m, rfl, ⟨_, q1⟩, rdy, hcy⟩
        obtain ⟨q2, q3⟩ := q1 (by omega)
        go_wp2_with fail
        exact hQ.out _ _ rdy hcy ⟨m, rfl, q2, q3⟩
      intro u3
      simp only [Act.put, List.setIfInBounds_toArray, List.set_cons_zero, List.set_cons_succ]
      apply st_look (fun v => ∃ m : Int, v = .int .i64 m ∧ 1 ≤ m ∧ m ≤ 40)
      · rfl
      · intro x hF Qx hQ'
        have hQ := Lib.hid hQ'; clear hQ'
        obtain ⟨m, rfl, q1, q2⟩ := hF.1 (by kernel_rfl)
        go_wp2_with fail
        exact hQ.out _ ⟨_, rfl, by omega, by omega⟩
      intro u4
      simp only [Act.put, List.setIfInBounds_toArray, List.set_cons_zero, List.set_cons_succ]
      apply st_store (fun x => x.done = true ∧ Blk x.to w.heap.size 30 #[.slice A1 rr.keys.length c1, .slice B1 rr.grs.length d1])
      · rfl
      · exact fun j hj => (by cases hj)
      · exact fun x y h hl => by
          obtain ⟨h1, _, h3⟩ := hl.full h.1 (x.bf rfl) h.2
          exact ⟨h1, h3⟩
      · intro x hF hdn Qx hQ'
        have hQ := Lib.hid hQ'; clear hQ'
        have hbx := x.bf rfl
        cases hF.2.2.1 (by kernel_rfl)
        clear hF
        obtain ⟨hbg, hbh, cs, hcs, hkb⟩ := x.bx _ hbx
        obtain ⟨ca, cb, rfl⟩ := pair_of hcs
        have ckb := hkb.cell
        have fkb := hkb.frozen
        go_wp2_with fail
        exact hQ.out _ hbx _ (chg_two _ _ _ _) _ rfl ((hkb.set_ 0 _).set_ 1 _) ⟨rfl, (hkb.set_ 0 _).set_ 1 _⟩
      · rfl
      simp only [Act.put, List.setIfInBounds_toArray, List.set_cons_zero, List.set_cons_succ]
      apply st_look (fun v => v = .int .i64 k9)
      · rfl
      · intro x hF Qx hQ'
        have hQ := Lib.hid hQ'; clear hQ'
        go_wp2_with fail
        exact hQ.out _ rfl
      intro u11
      simp only [Act.put, List.setIfInBounds_toArray, List.set_cons_zero, List.set_cons_succ]
      apply st_look (fun v => ∃ m : Int, v = .int .i64 m ∧ 1 ≤ m ∧ m ≤ 40)
      · rfl
      · intro x hF Qx hQ'
        have hQ := Lib.hid hQ'; clear hQ'
        obtain ⟨m, rfl, q1, q2⟩ := hF.2.2.1 (by kernel_rfl)
        go_wp2_with fail
        exact hQ.out _ ⟨_, rfl, q1, q2⟩
      intro u12
      simp only [Act.put, List.setIfInBounds_toArray, List.set_cons_zero, List.set_cons_succ]
      refine st_end fun x hF => ?_
      simp only [allF] at hF
      obtain ⟨⟨k12, rfl, r1, r2⟩, rfl, ⟨hdn, k7⟩, -⟩ := hF
      have o7 : OwnRg x.to w.heap.size _ _ rr := (x.rg o2 (by omega) (fun b hb => by have := (o2.keys.at_ hb).1; omega) (fun b hb => by have := (o2.grs.at_ hb).1; omega) (fun _ h => h)).base (by omega)
      have hb7 := below_chg hbw0 x.ok (fun i hi => by
        rcases hi with h | h | h
        · omega
        · rw [x.bf rfl] at h; cases h; exact Nat.le_refl _
        · exact h.2.elim)
      have ck7 := k7.cell
      simp only [List.drop]
      go_wp2_with fail
      exact bodyPost_ret (v := .tuple #[.agg #[_, _], .int .i64 k9, .int .i64 k12]) (by simp [results, Try.results39, go_sem, ck7]) rfl ⟨_, _, _, _, _, rfl, o7, HF.out, in9, ⟨by omega, by omega⟩, hb7⟩
    · have t1 : decide (0 < v4) = false := decide_eq_false hv4
      go_wp2_with fail
      have hbxx : ∀ b, some w.heap.size = some b → b ≠ g ∧ w.heap.size ≤ b ∧ ∃ cs : Array Value, cs.size = 2 ∧ Blk w4 b 30 cs := fun b hb => by cases hb; exact ⟨by omega, Nat.le_refl _, _, rfl, k0⟩
      refine region_stT (N := q + 40) (s := 5) (ia := 99) (ic := 99) (bk := w.heap.size) (fx := true) (ty := 30) (n := 2) (S := fun _ => False) (pre := []) 8 _ [1, 2] [0, 3, 4, 5, 6, 7] (by kernel_rfl) (by kernel_rfl) (by kernel_rfl) hrx (by omega) (some w.heap.size) (fun b hb => by cases hb; rfl) (fun _ => rfl) (fun b hb => hb.elim) hbxx (.inr (by decide)) ?_
      simp only [pick, List.map, List.getD_cons_zero, List.getD_cons_succ]
      repeat (go_big_quiet_step (fail))
      refine wpQuiet_nil ?_
      apply Exists.intro
      apply st_look (fun v => v = .agg #[.slice A1 rr.keys.length c1, .slice B1 rr.grs.length d1])
      · rfl
      · intro x _ Qx hQ'
        have hQ := Lib.hid hQ'; clear hQ'
        have ca := pasts_cell (x := x) (m0.cell 0) (by show w2.heap.size ≠ g; omega) (by show w2.heap.size ≠ _; omega) (fun h => h)
        have cb := pasts_cell (x := x) (m0.cell 1) (by show w2.heap.size ≠ g; omega) (by show w2.heap.size ≠ _; omega) (fun h => h)
        go_wp2_with fail
        exact hQ.out _ rfl
      intro ux
      simp only [Act.put, List.setIfInBounds_toArray, List.set_cons_zero, List.set_cons_succ]
      apply st_pick (fun v => ∃ m : Int, v = .int .i64 m ∧ 0 ≤ m ∧ m < 40)
      · rfl
      · intro x _ hN Qx hQ'
        have hQ := Lib.hid hQ'; clear hQ'
        go_wp2_with fail
        refine (pick_any _ _ _ _ _ _ 40 x.rd (by omega)).mono ?_
        rintro e wy ⟨m, rfl, ⟨_, q1⟩, rdy, hcy⟩
        obtain ⟨q2, q3⟩ := q1 (by omega)
        go_wp2_with fail
        exact hQ.out _ _ rdy hcy ⟨m, rfl, q2, q3⟩
      intro u3
      simp only [Act.put, List.setIfInBounds_toArray, List.set_cons_zero, List.set_cons_succ]
      apply st_look (fun v => ∃ m : Int, v = .int .i64 m ∧ 1 ≤ m ∧ m ≤ 40)
      · rfl
      · intro x hF Qx hQ'
        have hQ := Lib.hid hQ'; clear hQ'
        obtain ⟨m, rfl, q1, q2⟩ := hF.1 (by kernel_rfl)
        go_wp2_with fail
        exact hQ.out _ ⟨_, rfl, by omega, by omega⟩
      intro u4
      simp only [Act.put, List.setIfInBounds_toArray, List.set_cons_zero, List.set_cons_succ]
      apply st_store (fun x => x.done = true ∧ Blk x.to w.heap.size 30 #[.slice A1 rr.keys.length c1, .slice B1 rr.grs.length d1])
      · rfl
      · exact fun j hj => (by cases hj)
      · exact fun x y h hl => by
          obtain ⟨h1, _, h3⟩ := hl.full h.1 (x.bf rfl) h.2
          exact ⟨h1, h3⟩
      · intro x hF hdn Qx hQ'
        have hQ := Lib.hid hQ'; clear hQ'
        have hbx := x.bf rfl
        cases hF.2.2.1 (by kernel_rfl)
        clear hF
        obtain ⟨hbg, hbh, cs, hcs, hkb⟩ := x.bx _ hbx
        obtain ⟨ca, cb, rfl⟩ := pair_of hcs
        have ckb := hkb.cell
        have fkb := hkb.frozen
        go_wp2_with fail
        exact hQ.out _ hbx _ (chg_two _ _ _ _) _ rfl ((hkb.set_ 0 _).set_ 1 _) ⟨rfl, (hkb.set_ 0 _).set_ 1 _⟩
      · rfl
      simp only [Act.put, List.setIfInBounds_toArray, List.set_cons_zero, List.set_cons_succ]
      apply st_look (fun v => v = .int .i64 v3)
      · rfl
      · intro x hF Qx hQ'
        have hQ := Lib.hid hQ'; clear hQ'
        go_wp2_with fail
        exact hQ.out _ rfl
      intro u11
      simp only [Act.put, List.setIfInBounds_toArray, List.set_cons_zero, List.set_cons_succ]
      apply st_look (fun v => ∃ m : Int, v = .int .i64 m ∧ 1 ≤ m ∧ m ≤ 40)
      · rfl
      · intro x hF Qx hQ'
        have hQ := Lib.hid hQ'; clear hQ'
        obtain ⟨m, rfl, q1, q2⟩ := hF.2.2.1 (by kernel_rfl)
        go_wp2_with fail
        exact hQ.out _ ⟨_, rfl, q1, q2⟩
      intro u12
      simp only [Act.put, List.setIfInBounds_toArray, List.set_cons_zero, List.set_cons_succ]
      refine st_end fun x hF => ?_
      simp only [allF] at hF
      obtain ⟨⟨k12, rfl, r1, r2⟩, rfl, ⟨hdn, k7⟩, -⟩ := hF
      have o7 : OwnRg x.to w.heap.size _ _ rr := (x.rg o2 (by omega) (fun b hb => by have := (o2.keys.at_ hb).1; omega) (fun b hb => by have := (o2.grs.at_ hb).1; omega) (fun _ h => h)).base (by omega)
      have hb7 := below_chg hbw0 x.ok (fun i hi => by
        rcases hi with h | h | h
        · omega
        · rw [x.bf rfl] at h; cases h; exact Nat.le_refl _
        · exact h.2.elim)
      have ck7 := k7.cell
      simp only [List.drop]
      go_wp2_with fail
      exact bodyPost_ret (v := .tuple #[.agg #[_, _], .int .i64 v3, .int .i64 k12]) (by simp [results, Try.results39, go_sem, ck7]) rfl ⟨_, _, _, _, _, rfl, o7, HF.out, in64_small (by omega), ⟨by omega, by omega⟩, hb7⟩

def DrawOkPost (w : World) (e : Ending) (w' : World) : Prop :=
  ∃ va vb rr, e = .returned (.agg #[va, vb]) ∧ OwnRg w' w.heap.size va vb rr ∧ Fine rr 13 ∧ Below w.heap.size w w'
set_option maxHeartbeats 2000000 in
theorem drawRingOk_any (l : List Int) (A : Option Addr) (n c : Nat) (w : World) (h : RSl RByte 1 w 0 w.heap.size l [.slice A n c]) :
    Calls Try.prog 24 #[.slice A n c] w (DrawOkPost w) := by
  go_enter Try.func24, Try.ntmps24
  go_wp2_with fail
  have hbw0 : Below w.heap.size w (w.alloc (.cells #[.slice none 0 0, .slice none 0 0] 30)) := below_alloc _ _
  have k0 : Blk (w.alloc (.cells #[.slice none 0 0, .slice none 0 0] 30)) (w.heap.size) 30 #[.slice none 0 0, .slice none 0 0] := by
    have hk := Blk.new w 30 #[.slice none 0 0, .slice none 0 0]
    exact hk
  have hsw0 : w.heap.size + 1 ≤ (w.alloc (.cells #[.slice none 0 0, .slice none 0 0] 30)).heap.size := by simp only [World.size_alloc]; omega
  generalize (w.alloc (.cells #[.slice none 0 0, .slice none 0 0] 30)) = w0 at *
  have ck0 := k0.cell
  have fk0 := k0.frozen
  refine (open_any l A n c w0 0 w.heap.size (sl_keep RByte.loc h hbw0 (Nat.le_refl _)) hbw0.size).mono ?_
  rintro e w1 ⟨g, rfl, hr, hg, hb1⟩
  replace k0 := blk_keep k0 hb1
  replace ck0 := k0.cell
  replace fk0 := k0.frozen
  replace hbw0 := below_below hbw0 hb1
  have hgl := hr.lt
  go_wp2_with fail
  refine (l92Ring_any _ g 0 _ _ _ hr (by omega)).mono ?_
  rintro e w2 ⟨va, vb, rr, q, rfl, o2, f2, hr2, hq, hc2⟩
  clear hr
  obtain ⟨A1, c1, rfl⟩ := o2.keys.form
  obtain ⟨B1, d1, rfl⟩ := o2.grs.form
  replace k0 := blk_chg k0 hc2 (by omega)
  replace ck0 := k0.cell
  replace fk0 := k0.frozen
  have hgw : w.heap.size ≤ g := by omega
  replace hbw0 := below_chg hbw0 hc2 (fun i hi => by omega)
  have HF := Lib.hid f2; clear f2
  go_wp2_with fail
  have hbwx : Below w2.heap.size w2 (w2.alloc (.cells #[.slice A1 rr.keys.length c1, .slice B1 rr.grs.length d1] 30)) := below_alloc _ _
  have m0 : Blk (w2.alloc (.cells #[.slice A1 rr.keys.length c1, .slice B1 rr.grs.length d1] 30)) (w2.heap.size) 30 #[.slice A1 rr.keys.length c1, .slice B1 rr.grs.length d1] := by
    have hk := Blk.new w2 30 #[.slice A1 rr.keys.length c1, .slice B1 rr.grs.length d1]
    exact hk
  have hswx : w2.heap.size + 1 ≤ (w2.alloc (.cells #[.slice A1 rr.keys.length c1, .slice B1 rr.grs.length d1] 30)).heap.size := by simp only [World.size_alloc]; omega
  generalize (w2.alloc (.cells #[.slice A1 rr.keys.length c1, .slice B1 rr.grs.length d1] 30)) = wx at *
  have cm0 := m0.cell
  have fm0 := m0.frozen
  replace k0 := blk_keep k0 hbwx
  replace ck0 := k0.cell
  replace fk0 := k0.frozen
  have hrx := hr2.chg (Chg.of_below (S := fun _ => False) hbwx) (fun _ _ h => h)
  clear hr2
  replace hbw0 := below_below hbw0 hbwx
  replace o2 := o2.below hbwx
  have z2 := hc2.size
  have zx := hbwx.size
  have hbxx : ∀ b, some w.heap.size = some b → b ≠ g ∧ w.heap.size ≤ b ∧ ∃ cs : Array Value, cs.size = 2 ∧ Blk wx b 30 cs := fun b hb => by cases hb; exact ⟨by omega, Nat.le_refl _, _, rfl, k0⟩
  have hl12 := HF.out.keys
  have hg12 := HF.out.grs
  refine (pick_any _ _ _ _ _ _ 5 hrx (by omega)).mono ?_
  rintro e w3 ⟨v3, rfl, ⟨_, hp⟩, hr3, hc3⟩
  obtain ⟨p3, q3⟩ := hp (by omega)
  clear hp
  replace hrx := hr3
  replace k0 := blk_chg k0 hc3 (by omega)
  replace ck0 := k0.cell
  replace fk0 := k0.frozen
  replace m0 := blk_chg m0 hc3 (by omega)
  replace cm0 := m0.cell
  replace fm0 := m0.frozen
  replace hbw0 := below_chg hbw0 hc3 (fun i hi => by omega)
  replace o2 := o2.past hc3 (by omega)
  clear hc3
  by_cases h30 : v3 = 0
  · have t3 : (v3 == 0) = true := beq_iff_eq.2 h30
    have cmb : w3.cell? ⟨w2.heap.size, 1, none⟩ = some (.slice B1 rr.grs.length d1) := m0.cell 1
    have hsf : ∀ b, (Value.slice B1 rr.grs.length d1).ownBlock = some b → b ≠ g ∧ w.heap.size ≤ b ∧ b ≠ w3.heap.size ∧ b < w3.heap.size := fun b hb => by
      have := o2.grs.at_ hb
      exact ⟨by omega, by omega, by omega, this.2⟩
    have hne : Nonempty (PastS w3 0 w.heap.size g (l.take 2000) (q + 20) 10 99 99 w3.heap.size false 30 2 (fun b => (Value.slice B1 rr.grs.length d1).ownBlock = some b) []) := st_some hrx (by omega) none (fun b hb => by cases hb) (fun h => by cases h) hsf (fun b hb => by cases hb)
    go_wp2_with fail
    have z3 := m0.lt
    have past0 := fun x : PastS w3 0 w.heap.size g (l.take 2000) (q + 20) 10 99 99 w3.heap.size false 30 2 (fun b => (Value.slice B1 rr.grs.length d1).ownBlock = some b) [] => pasts_cell cmb (x := x) (by show w2.heap.size ≠ g; omega) (by show w2.heap.size ≠ _; omega) (fun h => rg_blk_ne o2.grs m0 (by decide) _ h rfl)
    refine region_stT (N := q + 20) (s := 10) (ia := 99) (ic := 99) (bk := w3.heap.size) (fx := false) (ty := 30) (n := 2) (S := fun b => (Value.slice B1 rr.grs.length d1).ownBlock = some b) (pre := []) 11 _ [0, 1, 2, 4, 6] [3, 5, 7, 8, 9, 10] (by kernel_rfl) (by kernel_rfl) (by kernel_rfl) hrx (by omega) none (fun b hb => by cases hb) (fun h => by cases h) hsf (fun b hb => by cases hb) (.inl rfl) ?_
    simp only [pick, List.map, List.getD_cons_zero, List.getD_cons_succ]
    repeat (go_big_quiet_step (fail))
    refine wpQuiet_nil ?_
    clear past0 hne
    apply Exists.intro
    apply st_pick (fun v => ∃ m : Int, v = .int .i64 m ∧ 0 ≤ m ∧ m < 6)
    · rfl
    · intro x _ hN Qx hQ'
      have hQ := Lib.hid hQ'; clear hQ'
      go_wp2_with fail
      refine (pick_any _ _ _ _ _ _ 6 x.rd (by omega)).mono ?_
      rintro e wy ⟨m, rfl, ⟨_, q1⟩, rdy, hcy⟩
      obtain ⟨q2, q3⟩ := q1 (by omega)
      go_wp2_with fail
      exact hQ.out _ _ rdy hcy ⟨m, rfl, q2, q3⟩
    intro u3
    simp only [Act.put, List.setIfInBounds_toArray, List.set_cons_zero, List.set_cons_succ]
    apply st_pick (fun v => ∃ m : Int, v = .int .i64 m ∧ 0 ≤ m ∧ m < 3)
    · rfl
    · intro x _ hN Qx hQ'
      have hQ := Lib.hid hQ'; clear hQ'
      go_wp2_with fail
      refine (pick_any _ _ _ _ _ _ 3 x.rd (by omega)).mono ?_
      rintro e wy ⟨m, rfl, ⟨_, q1⟩, rdy, hcy⟩
      obtain ⟨q2, q3⟩ := q1 (by omega)
      go_wp2_with fail
      exact hQ.out _ _ rdy hcy ⟨m, rfl, q2, q3⟩
    intro u5
    simp only [Act.put, List.setIfInBounds_toArray, List.set_cons_zero, List.set_cons_succ]
    apply st_pick (fun v => ∃ m : Int, v = .int .i64 m ∧ 0 ≤ m ∧ m < 3)
    · rfl
    · intro x _ hN Qx hQ'
      have hQ := Lib.hid hQ'; clear hQ'
      go_wp2_with fail
      refine (pick_any _ _ _ _ _ _ 3 x.rd (by omega)).mono ?_
      rintro e wy ⟨m, rfl, ⟨_, q1⟩, rdy, hcy⟩
      obtain ⟨q2, q3⟩ := q1 (by omega)
      go_wp2_with fail
      exact hQ.out _ _ rdy hcy ⟨m, rfl, q2, q3⟩
    intro u7
    simp only [Act.put, List.setIfInBounds_toArray, List.set_cons_zero, List.set_cons_succ]
    apply st_look (fun v => ∃ y : Gr, v = .agg #[.int .i64 y.m, .int .i64 y.f, .int .i64 y.t] ∧ FGr.good y)
    · rfl
    · intro x hF Qx hQ'
      have hQ := Lib.hid hQ'; clear hQ'
      obtain ⟨m1, rfl, i1, i2⟩ := hF.1 (by kernel_rfl)
      obtain ⟨m2, rfl, i3, i4⟩ := hF.2.1 (by kernel_rfl)
      obtain ⟨m3, rfl, i5, i6⟩ := hF.2.2.1 (by kernel_rfl)
      go_wp2_with fail
      exact hQ.out _ ⟨⟨m3, m2, m1⟩, rfl, in64_small (n := m3) (by omega), in64_small (n := m2) (by omega), in64_small (n := m1) (by omega)⟩
    intro u8
    simp only [Act.put, List.setIfInBounds_toArray, List.set_cons_zero, List.set_cons_succ]
    apply st_any (fun v x => ∃ b, ∃ y : Gr, v = .slice (some ⟨b, 0, none⟩) 1 1 ∧ Blk x.to b 37 #[.int .i64 y.m, .int .i64 y.f, .int .i64 y.t] ∧ FGr.good y ∧ x.free b)
    · rfl
    · exact fun v x y ⟨b, m, e, hk, hm, hf⟩ hl => ⟨b, m, e, hl.blk hf hk, hm, hl.free hf⟩
    · intro x hF Qx hQ'
      have hQ := Lib.hid hQ'; clear hQ'
      obtain ⟨y, rfl, hy⟩ := hF.1 (by kernel_rfl)
      go_wp2_with fail
      exact hQ.out _ _ (below_alloc _ _) ⟨_, y, rfl, Blk.new _ _ _, hy, x.free_new _ _⟩
    intro u9
    simp only [Act.put, List.setIfInBounds_toArray, List.set_cons_zero, List.set_cons_succ]
    apply st_eff (fun v x => x.done = true ∧ ∃ y : Gr, FGr.good y ∧ OwnF FGr 37 x.to w1.heap.size v (rr.grs ++ [y]))
    · rfl
    · rfl
    · exact fun j hj => (by cases hj)
    · exact fun v x y ⟨hd, m, hm, ho⟩ hl => ⟨hl.done hd, m, hm, ho.chg (hl.done_chg hd) fun b hb e => (by have := (ho.at_ hb).1; omega)⟩
    · intro x hF hdn Qx hQ'
      have hQ := Lib.hid hQ'; clear hQ'
      obtain ⟨b, y, rfl, hkb, hy, hfb⟩ := hF.1 (by kernel_rfl)
      have oxx := o2.grs.chg (x.before hdn) (fun b hb e => by have := o2.grs.at_ hb; omega)
      refine app_flatB (F := FGr) (v := .slice B1 rr.grs.length d1) rfl (.tmp 13) (.tmp 21) 28 rfl elem_gr y rfl oxx rfl hkb rfl (by omega) (by have := x.ok.size; omega) ?_
      intro v8 w8 o8 ch8 at8
      refine wpList_nil ?_
      exact hQ.out _ _ ch8 ⟨rfl, y, hy, o8⟩
    intro u10
    simp only [Act.put, List.setIfInBounds_toArray, List.set_cons_zero, List.set_cons_succ]
    refine st_end fun x hF => ?_
    simp only [allF] at hF
    obtain ⟨⟨hdn, y, hy, o7⟩, -⟩ := hF
    obtain ⟨A7, c7, rfl⟩ := o7.form
    simp only [List.length_append, List.length_cons, List.length_nil, Nat.zero_add] at o7
    have hcx : Chg (fun b => b = g ∨ (Value.slice B1 rr.grs.length d1).ownBlock = some b) w3 x.to := x.ok.mono fun b hb e => by
      rcases e with e | e | ⟨_, e⟩
      · exact .inl e
      · rcases x.bw b e with e | e <;> omega
      · exact .inr e
    have hap := own_apart o2.keys o2.grs (by decide)
    have ok7 := o2.keys.chg hcx (fun b hb e => by
      have := o2.keys.at_ hb
      rcases e with e | e
      · omega
      · exact hap _ hb e)
    have k6 := blk_chg k0 hcx (fun e => by
      rcases e with e | e
      · omega
      · exact rg_blk_ne o2.grs k0 (by decide) _ e rfl)
    have m6 := blk_chg m0 hcx (fun e => by
      rcases e with e | e
      · omega
      · exact rg_blk_ne o2.grs m0 (by decide) _ e rfl)
    have ck6 := k6.cell
    have fk6 := k6.frozen
    have cm6 := m6.cell
    have fm6 := m6.frozen
    have hb7 := below_chg hbw0 hcx (fun i hi => by
      rcases hi with h | h
      · omega
      · have := (o2.grs.at_ h).1; omega)
    have hcm : Chg (fun b => b = w2.heap.size) x.to (x.to.setCell ⟨w2.heap.size, 1, none⟩ (.slice A7 (rr.grs.length + 1) c7)) := (Chg.refl (fun b => b = w2.heap.size) x.to).setCell (p := ⟨w2.heap.size, 1, none⟩) (.inl rfl) _
    have o8 : OwnRg (x.to.setCell ⟨w2.heap.size, 1, none⟩ (.slice A7 (rr.grs.length + 1) c7)) w1.heap.size _ _ ⟨rr.keys, rr.grs ++ [y]⟩ := ⟨ok7.chg hcm (rg_blk_ne ok7 m6 (by decide)), o7.chg hcm (rg_blk_ne o7 m6 (by decide))⟩
    have k8 := blk_chg k6 hcm (by omega)
    have hb8 := below_chg hb7 hcm (fun i hi => by omega)
    have hfin : Fine ⟨rr.keys, rr.grs ++ [y]⟩ 13 := ⟨⟨HF.out.good.keys, fun z hz => by
      rcases List.mem_append.1 hz with hz | hz
      · exact HF.out.good.grs z hz
      · rw [List.mem_singleton.1 hz]; exact hy⟩, by show rr.keys.length ≤ 13; omega, by simp; omega, HF.out.pos⟩
    have HN := Lib.hid hfin; clear hfin
    simp only [List.drop]
    go_wp2_with fail
    exact bodyPost_ret (v := .agg #[.slice A1 rr.keys.length c1, .slice A7 (rr.grs.length + 1) c7]) (by simp [results, Try.results24, go_sem, ck6]) rfl ⟨_, _, _, rfl, o8.two k8 _ _ (by omega), HN.out, (hb8.setCell (by simp) _).setCell (by simp) _⟩
  · have t3 : (v3 == 0) = false := beq_eq_false_iff_ne.2 h30
    go_wp2_with fail
    exact bodyPost_ret (v := .agg #[.slice A1 rr.keys.length c1, .slice B1 rr.grs.length d1]) (by simp [results, Try.results24, go_sem, ck0]) rfl ⟨_, _, _, rfl, o2.two k0 _ _ (by omega), HF.out.up (by omega), (hbw0.setCell (by simp) _).setCell (by simp) _⟩
end Go.Proofs.Ytdbeclnoaeiaeaa
