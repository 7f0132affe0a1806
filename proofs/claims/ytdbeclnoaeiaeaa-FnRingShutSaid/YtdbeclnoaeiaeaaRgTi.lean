


/- The program's RingTurn. -/
import Derived.Test.YtdbeclnoaeiaeaaGd
namespace Go.Proofs.Ytdbeclnoaeiaeaa
open Go.RowKit

set_option maxHeartbeats 1000000 in
theorem implRingTurn_any (r : Rg) (key : Int) (va vb : Value) (w : World) (lo hi : Nat) (hhi : hi ≤ w.heap.size) (ha : RSl RInt 1 w lo hi r.keys [va]) (h : RSl RGr 3 w lo hi r.grs [vb]) (hl1 : r.keys.length ≤ 1048576) (hl2 : r.grs.length ≤ 1048576) (r' : Rg) (ok : Bool) (hr : RTurn r key r' ok) :
    Calls Try.prog 33 #[.agg #[va, vb], .int .i64 key] w (NewRg2 w r' ok) := by
  have H64 := Lib.hid ha.in64
  obtain ⟨A, c, rfl⟩ := ha.form
  obtain ⟨B, d, rfl⟩ := h.form
  rcases hr with ⟨rfl, h1, h2, rfl⟩ | ⟨rfl, h1, h2, rfl⟩ | ⟨rfl, h1, rfl⟩
  · have H1 := Lib.hid h1; clear h1
    have t1 : decide (key ∈ r.keys) = false := by simpa using h2.1
    have hlt9 : (r.keys.length : Int) < 9 := by have := h2.2; omega
    clear h2
    go_enter Try.func33, Try.ntmps33
    go_wp2_with fail
    have hbw0 : Below w.heap.size w ((w.alloc (.cells #[.slice A r.keys.length c, .slice B r.grs.length d] 30)).alloc (.cells #[.slice none 0 0, .slice none 0 0] 30)) := below_alloc' (below_alloc _ _) _
    have k0 : Blk ((w.alloc (.cells #[.slice A r.keys.length c, .slice B r.grs.length d] 30)).alloc (.cells #[.slice none 0 0, .slice none 0 0] 30)) (w.heap.size) 30 #[.slice A r.keys.length c, .slice B r.grs.length d] := by
      have hk := blk_alloc (Blk.new w 30 #[.slice A r.keys.length c, .slice B r.grs.length d]) (.cells #[.slice none 0 0, .slice none 0 0] 30)
      exact hk
    have k1 : Blk ((w.alloc (.cells #[.slice A r.keys.length c, .slice B r.grs.length d] 30)).alloc (.cells #[.slice none 0 0, .slice none 0 0] 30)) (w.heap.size + 1) 30 #[.slice none 0 0, .slice none 0 0] := by
      have hk := Blk.new (w.alloc (.cells #[.slice A r.keys.length c, .slice B r.grs.length d] 30)) 30 #[.slice none 0 0, .slice none 0 0]
      simp only [World.size_alloc] at hk
      exact hk
    have hsw0 : w.heap.size + 2 ≤ ((w.alloc (.cells #[.slice A r.keys.length c, .slice B r.grs.length d] 30)).alloc (.cells #[.slice none 0 0, .slice none 0 0] 30)).heap.size := by simp only [World.size_alloc]; omega
    generalize ((w.alloc (.cells #[.slice A r.keys.length c, .slice B r.grs.length d] 30)).alloc (.cells #[.slice none 0 0, .slice none 0 0] 30)) = w0 at *
    have ck0 := k0.cell
    have fk0 := k0.frozen
    have ck1 := k1.cell
    have fk1 := k1.frozen
    refine (implRingOk_any r _ _ _ _ _ (Nat.le_trans hhi hbw0.size) (sl_keep RInt.loc ha hbw0 hhi) (sl_keep RGr.loc h hbw0 hhi) true (by simp only [true_iff]; exact H1.out.1)).mono ?_
    rintro e w1 ⟨rfl, b1⟩
    replace k0 := blk_keep k0 b1
    replace ck0 := k0.cell
    replace fk0 := k0.frozen
    replace k1 := blk_keep k1 b1
    replace ck1 := k1.cell
    replace fk1 := k1.frozen
    replace hbw0 := below_below hbw0 b1
    go_wp2_with fail
    refine (keyOk_any key _ true (by simp only [true_iff]; exact H1.out.2)).mono ?_
    rintro e w2 ⟨rfl, rfl⟩
    go_wp2_with fail
    refine (guard_any r _ _ _ _ _ (Nat.le_trans hhi hbw0.size) (sl_keep RInt.loc ha hbw0 hhi) (sl_keep RGr.loc h hbw0 hhi) hl1 hl2).mono ?_
    rintro e w2 ⟨g, rfl, o1, b2⟩
    replace k0 := blk_keep k0 b2
    replace ck0 := k0.cell
    replace fk0 := k0.frozen
    replace k1 := blk_keep k1 b2
    replace ck1 := k1.cell
    replace fk1 := k1.frozen
    have z0 := hsw0
    have z1 := b1.size
    replace hbw0 := below_below hbw0 b2
    go_wp2_with fail
    refine (turn_yes r key g _ _ o1 hlt9 t1 H64.out).mono ?_
    rintro e w3 ⟨rfl, o3, ch3⟩
    have ch5 := ch3
    replace k1 := blk_chg k1 ch3 (by omega)
    replace ck1 := k1.cell
    replace fk1 := k1.frozen
    replace hbw0 := hbw0.trans (ch3.below hbw0.size fun i hi hs => by omega)
    obtain ⟨hg3, va, vb, kg, og⟩ := o3
    obtain ⟨A3, c3, rfl⟩ := og.keys.form
    obtain ⟨B3, d3, rfl⟩ := og.grs.form
    have cg0 : w3.cell? ⟨g, 2, none⟩ = some (.slice A3 (r.keys ++ [key]).length c3) := kg.cell 2
    have cg1 : w3.cell? ⟨g, 3, none⟩ = some (.slice B3 r.grs.length d3) := kg.cell 3
    go_wp2_with fail
    exact bodyPost_ret (v := .tuple #[.agg #[_, _], .bool true]) (by simp [results, Try.results33, go_sem, ck1]) rfl ⟨_, _, rfl, ((og.set_ _ (by dsimp only; omega)).set_ _ (by dsimp only; omega)).base (by omega), (hbw0.setCell (by simp) _).setCell (by simp) _⟩
  · have H1 := Lib.hid h1
    have hno : decide (key ∈ r.keys) = true ∨ (decide (key ∈ r.keys) = false ∧ r.keys.length = 9) := by
      by_cases p : key ∈ r.keys
      · exact .inl (decide_eq_true p)
      · refine .inr ⟨decide_eq_false p, ?_⟩
        have : ¬ r.keys.length < 9 := fun h => h2 ⟨p, h⟩
        have := h1.1.2.2.2
        omega
    clear h1 h2
    have HN := Lib.hid hno; clear hno
    go_enter Try.func33, Try.ntmps33
    go_wp2_with fail
    have hbw0 : Below w.heap.size w ((w.alloc (.cells #[.slice A r.keys.length c, .slice B r.grs.length d] 30)).alloc (.cells #[.slice none 0 0, .slice none 0 0] 30)) := below_alloc' (below_alloc _ _) _
    have k0 : Blk ((w.alloc (.cells #[.slice A r.keys.length c, .slice B r.grs.length d] 30)).alloc (.cells #[.slice none 0 0, .slice none 0 0] 30)) (w.heap.size) 30 #[.slice A r.keys.length c, .slice B r.grs.length d] := by
      have hk := blk_alloc (Blk.new w 30 #[.slice A r.keys.length c, .slice B r.grs.length d]) (.cells #[.slice none 0 0, .slice none 0 0] 30)
      exact hk
    have k1 : Blk ((w.alloc (.cells #[.slice A r.keys.length c, .slice B r.grs.length d] 30)).alloc (.cells #[.slice none 0 0, .slice none 0 0] 30)) (w.heap.size + 1) 30 #[.slice none 0 0, .slice none 0 0] := by
      have hk := Blk.new (w.alloc (.cells #[.slice A r.keys.length c, .slice B r.grs.length d] 30)) 30 #[.slice none 0 0, .slice none 0 0]
      simp only [World.size_alloc] at hk
      exact hk
    have hsw0 : w.heap.size + 2 ≤ ((w.alloc (.cells #[.slice A r.keys.length c, .slice B r.grs.length d] 30)).alloc (.cells #[.slice none 0 0, .slice none 0 0] 30)).heap.size := by simp only [World.size_alloc]; omega
    generalize ((w.alloc (.cells #[.slice A r.keys.length c, .slice B r.grs.length d] 30)).alloc (.cells #[.slice none 0 0, .slice none 0 0] 30)) = w0 at *
    have ck0 := k0.cell
    have fk0 := k0.frozen
    have ck1 := k1.cell
    have fk1 := k1.frozen
    refine (implRingOk_any r _ _ _ _ _ (Nat.le_trans hhi hbw0.size) (sl_keep RInt.loc ha hbw0 hhi) (sl_keep RGr.loc h hbw0 hhi) true (by simp only [true_iff]; exact H1.out.1)).mono ?_
    rintro e w1 ⟨rfl, b1⟩
    replace k0 := blk_keep k0 b1
    replace ck0 := k0.cell
    replace fk0 := k0.frozen
    replace k1 := blk_keep k1 b1
    replace ck1 := k1.cell
    replace fk1 := k1.frozen
    replace hbw0 := below_below hbw0 b1
    go_wp2_with fail
    refine (keyOk_any key _ true (by simp only [true_iff]; exact H1.out.2)).mono ?_
    rintro e w2 ⟨rfl, rfl⟩
    go_wp2_with fail
    refine (guard_any r _ _ _ _ _ (Nat.le_trans hhi hbw0.size) (sl_keep RInt.loc ha hbw0 hhi) (sl_keep RGr.loc h hbw0 hhi) hl1 hl2).mono ?_
    rintro e w2 ⟨g, rfl, o1, b2⟩
    replace k0 := blk_keep k0 b2
    replace ck0 := k0.cell
    replace fk0 := k0.frozen
    replace k1 := blk_keep k1 b2
    replace ck1 := k1.cell
    replace fk1 := k1.frozen
    have z0 := hsw0
    have z1 := b1.size
    replace hbw0 := below_below hbw0 b2
    go_wp2_with fail
    refine (turn_no r key g _ _ o1 HN.out H64.out).mono ?_
    rintro e w3 ⟨rfl, o3, ch3⟩
    have ch5 := ch3
    replace k1 := blk_chg k1 ch3 (by omega)
    replace ck1 := k1.cell
    replace fk1 := k1.frozen
    replace hbw0 := hbw0.trans (ch3.below hbw0.size fun i hi hs => by omega)
    obtain ⟨hg3, va, vb, kg, og⟩ := o3
    obtain ⟨A3, c3, rfl⟩ := og.keys.form
    obtain ⟨B3, d3, rfl⟩ := og.grs.form
    have cg0 : w3.cell? ⟨g, 2, none⟩ = some (.slice A3 r.keys.length c3) := kg.cell 2
    have cg1 : w3.cell? ⟨g, 3, none⟩ = some (.slice B3 r.grs.length d3) := kg.cell 3
    go_wp2_with fail
    exact bodyPost_ret (v := .tuple #[.agg #[_, _], .bool false]) (by simp [results, Try.results33, go_sem, ck1]) rfl ⟨_, _, rfl, ((og.set_ _ (by dsimp only; omega)).set_ _ (by dsimp only; omega)).base (by omega), (hbw0.setCell (by simp) _).setCell (by simp) _⟩
  · by_cases p : ringP r
    · have H1 := Lib.hid h1; clear h1
      have P := Lib.hid p; clear p
      have hk : ¬ (1 ≤ key ∧ key ≤ 99) := fun hk => H1.out ⟨P.out, hk⟩
      have HK := Lib.hid hk; clear hk
      go_enter Try.func33, Try.ntmps33
      go_wp2_with fail
      have hbw0 : Below w.heap.size w ((w.alloc (.cells #[.slice A r.keys.length c, .slice B r.grs.length d] 30)).alloc (.cells #[.slice none 0 0, .slice none 0 0] 30)) := below_alloc' (below_alloc _ _) _
      have k0 : Blk ((w.alloc (.cells #[.slice A r.keys.length c, .slice B r.grs.length d] 30)).alloc (.cells #[.slice none 0 0, .slice none 0 0] 30)) (w.heap.size) 30 #[.slice A r.keys.length c, .slice B r.grs.length d] := by
        have hk := blk_alloc (Blk.new w 30 #[.slice A r.keys.length c, .slice B r.grs.length d]) (.cells #[.slice none 0 0, .slice none 0 0] 30)
        exact hk
      have k1 : Blk ((w.alloc (.cells #[.slice A r.keys.length c, .slice B r.grs.length d] 30)).alloc (.cells #[.slice none 0 0, .slice none 0 0] 30)) (w.heap.size + 1) 30 #[.slice none 0 0, .slice none 0 0] := by
        have hk := Blk.new (w.alloc (.cells #[.slice A r.keys.length c, .slice B r.grs.length d] 30)) 30 #[.slice none 0 0, .slice none 0 0]
        simp only [World.size_alloc] at hk
        exact hk
      have hsw0 : w.heap.size + 2 ≤ ((w.alloc (.cells #[.slice A r.keys.length c, .slice B r.grs.length d] 30)).alloc (.cells #[.slice none 0 0, .slice none 0 0] 30)).heap.size := by simp only [World.size_alloc]; omega
      generalize ((w.alloc (.cells #[.slice A r.keys.length c, .slice B r.grs.length d] 30)).alloc (.cells #[.slice none 0 0, .slice none 0 0] 30)) = w0 at *
      have ck0 := k0.cell
      have fk0 := k0.frozen
      have ck1 := k1.cell
      have fk1 := k1.frozen
      refine (implRingOk_any r _ _ _ _ _ (Nat.le_trans hhi hbw0.size) (sl_keep RInt.loc ha hbw0 hhi) (sl_keep RGr.loc h hbw0 hhi) true (by simp only [true_iff]; exact P.out)).mono ?_
      rintro e w1 ⟨rfl, b1⟩
      replace k0 := blk_keep k0 b1
      replace ck0 := k0.cell
      replace fk0 := k0.frozen
      replace k1 := blk_keep k1 b1
      replace ck1 := k1.cell
      replace fk1 := k1.frozen
      replace hbw0 := below_below hbw0 b1
      go_wp2_with fail
      refine (keyOk_any key _ false (by simp only [Bool.false_eq_true, false_iff]; exact HK.out)).mono ?_
      rintro e w2 ⟨rfl, rfl⟩
      go_wp2_with fail
      exact bodyPost_ret (v := .tuple #[.agg #[.slice none 0 0, .slice none 0 0], .bool false]) (by simp [results, Try.results33, go_sem, ck1]) rfl ⟨_, _, rfl, OwnRg.nil _ _, (hbw0.setCell (by simp) _).setCell (by simp) _⟩
    · have P := Lib.hid p; clear p h1
      go_enter Try.func33, Try.ntmps33
      go_wp2_with fail
      have hbw0 : Below w.heap.size w ((w.alloc (.cells #[.slice A r.keys.length c, .slice B r.grs.length d] 30)).alloc (.cells #[.slice none 0 0, .slice none 0 0] 30)) := below_alloc' (below_alloc _ _) _
      have k0 : Blk ((w.alloc (.cells #[.slice A r.keys.length c, .slice B r.grs.length d] 30)).alloc (.cells #[.slice none 0 0, .slice none 0 0] 30)) (w.heap.size) 30 #[.slice A r.keys.length c, .slice B r.grs.length d] := by
        have hk := blk_alloc (Blk.new w 30 #[.slice A r.keys.length c, .slice B r.grs.length d]) (.cells #[.slice none 0 0, .slice none 0 0] 30)
        exact hk
      have k1 : Blk ((w.alloc (.cells #[.slice A r.keys.length c, .slice B r.grs.length d] 30)).alloc (.cells #[.slice none 0 0, .slice none 0 0] 30)) (w.heap.size + 1) 30 #[.slice none 0 0, .slice none 0 0] := by
        have hk := Blk.new (w.alloc (.cells #[.slice A r.keys.length c, .slice B r.grs.length d] 30)) 30 #[.slice none 0 0, .slice none 0 0]
        simp only [World.size_alloc] at hk
        exact hk
      have hsw0 : w.heap.size + 2 ≤ ((w.alloc (.cells #[.slice A r.keys.length c, .slice B r.grs.length d] 30)).alloc (.cells #[.slice none 0 0, .slice none 0 0] 30)).heap.size := by simp only [World.size_alloc]; omega
      generalize ((w.alloc (.cells #[.slice A r.keys.length c, .slice B r.grs.length d] 30)).alloc (.cells #[.slice none 0 0, .slice none 0 0] 30)) = w0 at *
      have ck0 := k0.cell
      have fk0 := k0.frozen
      have ck1 := k1.cell
      have fk1 := k1.frozen
      refine (implRingOk_any r _ _ _ _ _ (Nat.le_trans hhi hbw0.size) (sl_keep RInt.loc ha hbw0 hhi) (sl_keep RGr.loc h hbw0 hhi) false (by simp only [Bool.false_eq_true, false_iff]; exact P.out)).mono ?_
      rintro e w1 ⟨rfl, b1⟩
      replace k0 := blk_keep k0 b1
      replace ck0 := k0.cell
      replace fk0 := k0.frozen
      replace k1 := blk_keep k1 b1
      replace ck1 := k1.cell
      replace fk1 := k1.frozen
      replace hbw0 := below_below hbw0 b1
      go_wp2_with fail
      exact bodyPost_ret (v := .tuple #[.agg #[.slice none 0 0, .slice none 0 0], .bool false]) (by simp [results, Try.results33, go_sem, ck1]) rfl ⟨_, _, rfl, OwnRg.nil _ _, (hbw0.setCell (by simp) _).setCell (by simp) _⟩
end Go.Proofs.Ytdbeclnoaeiaeaa
