


/- The reference's RingTurn. -/
import Derived.Test.YtdbeclnoaeiaeaaRgC
namespace Go.Proofs.Ytdbeclnoaeiaeaa
open Go.RowKit

/-- What RingTurn gives. -/
def RTurn (r : Rg) (key : Int) (r' : Rg) (ok : Bool) : Prop :=
  (ok = true ∧ (ringP r ∧ 1 ≤ key ∧ key ≤ 99) ∧ (key ∉ r.keys ∧ r.keys.length < 9) ∧ r' = ⟨r.keys ++ [key], r.grs⟩) ∨
  (ok = false ∧ (ringP r ∧ 1 ≤ key ∧ key ≤ 99) ∧ ¬ (key ∉ r.keys ∧ r.keys.length < 9) ∧ r = r') ∨
  (ok = false ∧ ¬ (ringP r ∧ 1 ≤ key ∧ key ≤ 99) ∧ r' = ⟨[], []⟩)
theorem RTurn_total (r : Rg) (key : Int) : ∃ r' ok, RTurn r key r' ok := by
  by_cases h1 : ringP r ∧ 1 ≤ key ∧ key ≤ 99
  · by_cases h2 : key ∉ r.keys ∧ r.keys.length < 9
    · exact ⟨_, true, .inl ⟨rfl, h1, h2, rfl⟩⟩
    · exact ⟨_, false, .inr (.inl ⟨rfl, h1, h2, rfl⟩)⟩
  · exact ⟨_, false, .inr (.inr ⟨rfl, h1, rfl⟩)⟩
/-- A call that makes a ring of its own, and says whether. -/
def NewRg2 (w : World) (r : Rg) (ok : Bool) (e : Ending) (w' : World) : Prop := ∃ va vb, e = .returned (.tuple #[.agg #[va, vb], .bool ok]) ∧ OwnRg w' w.heap.size va vb r ∧ Below w.heap.size w w'
theorem OwnRg.nil (w : World) (base : Nat) : OwnRg w base (.slice none 0 0) (.slice none 0 0) ⟨[], []⟩ := ⟨OwnF.nil _ _ _, OwnF.nil _ _ _⟩

set_option maxHeartbeats 1000000 in
theorem specRingTurn_any (r : Rg) (key : Int) (va vb : Value) (w : World) (lo hi : Nat) (hhi : hi ≤ w.heap.size) (ha : RSl RInt 1 w lo hi r.keys [va]) (h : RSl RGr 3 w lo hi r.grs [vb]) (hl1 : r.keys.length ≤ 1048576) (hl2 : r.grs.length ≤ 1048576) (r' : Rg) (ok : Bool) (hr : RTurn r key r' ok) :
    Calls Try.prog 32 #[.agg #[va, vb], .int .i64 key] w (NewRg2 w r' ok) := by
  obtain ⟨A, c, rfl⟩ := ha.form
  obtain ⟨B, d, rfl⟩ := h.form
  rcases hr with ⟨rfl, h1, h2, rfl⟩ | ⟨rfl, h1, h2, rfl⟩ | ⟨rfl, h1, rfl⟩
  · have H1 := Lib.hid h1; clear h1
    have t1 : decide (key ∈ r.keys) = false := by simpa using h2.1
    have hlt9 : (r.keys.length : Int) < 9 := by have := h2.2; omega
    have H2 := Lib.hid h2; clear h2
    go_enter Try.func32, Try.ntmps32
    go_wp2_with fail
    have hbw0 : Below w.heap.size w ((w.alloc (.cells #[.slice A r.keys.length c, .slice B r.grs.length d] 30)).alloc (.cells #[.slice none 0 0, .slice none 0 0] 30)) := below_alloc' (below_alloc _ _) _
    have k0 : Blk ((w.alloc (.cells #[.slice A r.keys.length c, .slice B r.grs.length d] 30)).alloc (.cells #[.slice none 0 0, .slice none 0 0] 30)) (w.heap.size) 30 #[.slice A r.keys.length c, .slice B r.grs.length d] := by
      have hk := blk_alloc (Blk.new w 30 #[.slice A r.keys.length c, .slice B r.grs.length d]) (.cells #[.slice none 0 0, .slice none 0 0] 30)
      exact hk
    have k1 : Blk ((w.alloc (.cells #[.slice A r.keys.length c, .slice B r.grs.length d] 30)).alloc (.cells #[.slice none 0 0, .slice none 0 0] 30)) (w.heap.size + 1) 30 #[.slice none 0 0, .slice none 0 0] := by
      have hk := Blk.new (w.alloc (.cells #[.slice A r.keys.length c, .slice B r.grs.length d] 30)) 30 #[.slice none 0 0, .slice none 0 0]
      simp only [World.size_alloc] at hk
      exact hk
    have hsw0 : w.heap.size + 2 ≤ ((w.alloc (.cells #[.slice A r.keys.length c, .slice B r.grs.length d] 30)).alloc (.cells #[.slice none 0 0, .slice none 0 0] 30)).heap.size := by simp only [World.size_alloc]; omega
    generalize ((w.alloc (.cells #[.slice A r.keys.length c, .slice B r.grs.length d] 30)).alloc (.cells #[.slice none 0 0, .slice none 0 0] 30)) = w0 at *
    have ck0 := k0.cell
    have fk0 := k0.frozen
    have ck1 := k1.cell
    have fk1 := k1.frozen
    refine (specRingOk_any r _ _ _ _ _ (Nat.le_trans hhi hbw0.size) (sl_keep RInt.loc ha hbw0 hhi) (sl_keep RGr.loc h hbw0 hhi) true (by simp only [true_iff]; exact H1.out.1)).mono ?_
    rintro e w1 ⟨rfl, b1⟩
    replace k0 := blk_keep k0 b1
    replace ck0 := k0.cell
    replace fk0 := k0.frozen
    replace k1 := blk_keep k1 b1
    replace ck1 := k1.cell
    replace fk1 := k1.frozen
    replace hbw0 := below_below hbw0 b1
    go_wp2_with fail
    refine (l2Key_any key _ true (by simp only [true_iff]; exact H1.out.2)).mono ?_
    rintro e w2 ⟨rfl, rfl⟩
    go_wp2_with fail
    refine (l33Copy_any r _ _ _ _ _ (Nat.le_trans hhi hbw0.size) (sl_keep RInt.loc ha hbw0 hhi) (sl_keep RGr.loc h hbw0 hhi) hl1 hl2).mono ?_
    rintro e w2 ⟨v1, v2, rfl, o1, b2⟩
    replace k0 := blk_keep k0 b2
    replace ck0 := k0.cell
    replace fk0 := k0.frozen
    replace k1 := blk_keep k1 b2
    replace ck1 := k1.cell
    replace fk1 := k1.frozen
    replace hbw0 := below_below hbw0 b2
    have z2 := b2.size
    have z0 := k1.lt
    have z1 := hsw0
    have z3 := b1.size
    obtain ⟨A1, c1, rfl⟩ := o1.keys.form
    obtain ⟨A2, c2, rfl⟩ := o1.grs.form
    have ax := below_alloc w2 (.cells #[.slice A1 r.keys.length c1, .slice A2 r.grs.length c2] 30)
    have ka0 := (blk_keep k0 ax).cell
    go_wp2_with fail
    have hbwx : Below w2.heap.size w2 (w2.alloc (.cells #[.slice A1 r.keys.length c1, .slice A2 r.grs.length c2] 30)) := below_alloc _ _
    have m0 : Blk (w2.alloc (.cells #[.slice A1 r.keys.length c1, .slice A2 r.grs.length c2] 30)) (w2.heap.size) 30 #[.slice A1 r.keys.length c1, .slice A2 r.grs.length c2] := by
      have hk := Blk.new w2 30 #[.slice A1 r.keys.length c1, .slice A2 r.grs.length c2]
      exact hk
    have hswx : w2.heap.size + 1 ≤ (w2.alloc (.cells #[.slice A1 r.keys.length c1, .slice A2 r.grs.length c2] 30)).heap.size := by simp only [World.size_alloc]; omega
    generalize (w2.alloc (.cells #[.slice A1 r.keys.length c1, .slice A2 r.grs.length c2] 30)) = wx at *
    have cm0 := m0.cell
    have fm0 := m0.frozen
    replace k0 := blk_keep k0 hbwx
    replace ck0 := k0.cell
    replace fk0 := k0.frozen
    replace k1 := blk_keep k1 hbwx
    replace ck1 := k1.cell
    replace fk1 := k1.frozen
    replace hbw0 := below_below hbw0 hbwx
    have om := o1.below hbwx
    refine (l3Has_any r.keys key _ _ _ _ _ _ (sl_keep RInt.loc ha hbw0 hhi)).mono ?_
    rintro e w3 ⟨rfl, rfl⟩
    clear ka0 ax
    have nb : ∀ g, (Value.slice A1 r.keys.length c1).ownBlock = some g → w1.heap.size ≤ g ∧ g < w2.heap.size := fun g hg => o1.keys.at_ hg
    have hap := own_apart om.keys om.grs (by decide)
    have hbase : w1.heap.size ≤ wx.heap.size := by omega
    go_wp2_with (at_builtin; refine app_flat (F := FInt) (v := .slice A1 r.keys.length c1) rfl (.tmp 30) (.tmp 32) 22 rfl elem_int key rfl om.keys rfl rfl (by omega) hbase ?_; intro v3 w3 o3 ch3 at3; obtain ⟨A3, c3, rfl⟩ := o3.form; replace k1 := blk_chg k1 ch3 (fun hs => by have := nb _ hs; omega); replace m0 := blk_chg m0 ch3 (fun hs => by have := nb _ hs; omega); replace ck1 := k1.cell; replace cm0 := m0.cell; replace fk1 := k1.frozen; replace fm0 := m0.frozen)
    have hb3 : Below w.heap.size w w3 := hbw0.trans (ch3.below hbw0.size fun i hi hs => by have := nb i hs; omega)
    simp only [List.length_append, List.length_cons, List.length_nil, Nat.zero_add] at o3 at3
    have nb3 : ∀ b, (Value.slice A3 (r.keys.length + 1) c3).ownBlock = some b → b ≠ w2.heap.size := by
      intro b hb
      rcases at3 b hb with h5 | h5
      · have := nb b h5; omega
      · omega
    exact bodyPost_ret (v := .tuple #[.agg #[_, _], .bool true]) (by simp [results, Try.results32, go_sem, ck1]) rfl ⟨_, _, rfl, ⟨(((o3.set_ne _ nb3).set_ _ (by dsimp only; omega)).set_ _ (by dsimp only; omega)).base (by omega), ((((om.grs.chg ch3 fun b hb hs => hap b hs hb).set_ne _ (fun b hb => by have h5 := o1.grs.at_ hb; dsimp only; omega)).set_ _ (by dsimp only; omega)).set_ _ (by dsimp only; omega)).base (by omega)⟩, ((hb3.setCell (by dsimp only; omega) _).setCell (by dsimp only; omega) _).setCell (by dsimp only; omega) _⟩
  · have H1 := Lib.hid h1; clear h1
    by_cases p : key ∈ r.keys
    · have t1 : decide (key ∈ r.keys) = true := decide_eq_true p
      have P := Lib.hid p; clear p h2
      go_enter Try.func32, Try.ntmps32
      go_wp2_with fail
      have hbw0 : Below w.heap.size w ((w.alloc (.cells #[.slice A r.keys.length c, .slice B r.grs.length d] 30)).alloc (.cells #[.slice none 0 0, .slice none 0 0] 30)) := below_alloc' (below_alloc _ _) _
      have k0 : Blk ((w.alloc (.cells #[.slice A r.keys.length c, .slice B r.grs.length d] 30)).alloc (.cells #[.slice none 0 0, .slice none 0 0] 30)) (w.heap.size) 30 #[.slice A r.keys.length c, .slice B r.grs.length d] := by
        have hk := blk_alloc (Blk.new w 30 #[.slice A r.keys.length c, .slice B r.grs.length d]) (.cells #[.slice none 0 0, .slice none 0 0] 30)
        exact hk
      have k1 : Blk ((w.alloc (.cells #[.slice A r.keys.length c, .slice B r.grs.length d] 30)).alloc (.cells #[.slice none 0 0, .slice none 0 0] 30)) (w.heap.size + 1) 30 #[.slice none 0 0, .slice none 0 0] := by
        have hk := Blk.new (w.alloc (.cells #[.slice A r.keys.length c, .slice B r.grs.length d] 30)) 30 #[.slice none 0 0, .slice none 0 0]
        simp only [World.size_alloc] at hk
        exact hk
      have hsw0 : w.heap.size + 2 ≤ ((w.alloc (.cells #[.slice A r.keys.length c, .slice B r.grs.length d] 30)).alloc (.cells #[.slice none 0 0, .slice none 0 0] 30)).heap.size := by simp only [World.size_alloc]; omega
      generalize ((w.alloc (.cells #[.slice A r.keys.length c, .slice B r.grs.length d] 30)).alloc (.cells #[.slice none 0 0, .slice none 0 0] 30)) = w0 at *
      have ck0 := k0.cell
      have fk0 := k0.frozen
      have ck1 := k1.cell
      have fk1 := k1.frozen
      refine (specRingOk_any r _ _ _ _ _ (Nat.le_trans hhi hbw0.size) (sl_keep RInt.loc ha hbw0 hhi) (sl_keep RGr.loc h hbw0 hhi) true (by simp only [true_iff]; exact H1.out.1)).mono ?_
      rintro e w1 ⟨rfl, b1⟩
      replace k0 := blk_keep k0 b1
      replace ck0 := k0.cell
      replace fk0 := k0.frozen
      replace k1 := blk_keep k1 b1
      replace ck1 := k1.cell
      replace fk1 := k1.frozen
      replace hbw0 := below_below hbw0 b1
      go_wp2_with fail
      refine (l2Key_any key _ true (by simp only [true_iff]; exact H1.out.2)).mono ?_
      rintro e w2 ⟨rfl, rfl⟩
      go_wp2_with fail
      refine (l33Copy_any r _ _ _ _ _ (Nat.le_trans hhi hbw0.size) (sl_keep RInt.loc ha hbw0 hhi) (sl_keep RGr.loc h hbw0 hhi) hl1 hl2).mono ?_
      rintro e w2 ⟨v1, v2, rfl, o1, b2⟩
      replace k0 := blk_keep k0 b2
      replace ck0 := k0.cell
      replace fk0 := k0.frozen
      replace k1 := blk_keep k1 b2
      replace ck1 := k1.cell
      replace fk1 := k1.frozen
      replace hbw0 := below_below hbw0 b2
      have z2 := b2.size
      have z0 := k1.lt
      have z1 := hsw0
      have z3 := b1.size
      obtain ⟨A1, c1, rfl⟩ := o1.keys.form
      obtain ⟨A2, c2, rfl⟩ := o1.grs.form
      have ax := below_alloc w2 (.cells #[.slice A1 r.keys.length c1, .slice A2 r.grs.length c2] 30)
      have ka0 := (blk_keep k0 ax).cell
      go_wp2_with fail
      have hbwx : Below w2.heap.size w2 (w2.alloc (.cells #[.slice A1 r.keys.length c1, .slice A2 r.grs.length c2] 30)) := below_alloc _ _
      have m0 : Blk (w2.alloc (.cells #[.slice A1 r.keys.length c1, .slice A2 r.grs.length c2] 30)) (w2.heap.size) 30 #[.slice A1 r.keys.length c1, .slice A2 r.grs.length c2] := by
        have hk := Blk.new w2 30 #[.slice A1 r.keys.length c1, .slice A2 r.grs.length c2]
        exact hk
      have hswx : w2.heap.size + 1 ≤ (w2.alloc (.cells #[.slice A1 r.keys.length c1, .slice A2 r.grs.length c2] 30)).heap.size := by simp only [World.size_alloc]; omega
      generalize (w2.alloc (.cells #[.slice A1 r.keys.length c1, .slice A2 r.grs.length c2] 30)) = wx at *
      have cm0 := m0.cell
      have fm0 := m0.frozen
      replace k0 := blk_keep k0 hbwx
      replace ck0 := k0.cell
      replace fk0 := k0.frozen
      replace k1 := blk_keep k1 hbwx
      replace ck1 := k1.cell
      replace fk1 := k1.frozen
      replace hbw0 := below_below hbw0 hbwx
      have om := o1.below hbwx
      refine (l3Has_any r.keys key _ _ _ _ _ _ (sl_keep RInt.loc ha hbw0 hhi)).mono ?_
      rintro e w3 ⟨rfl, rfl⟩
      clear ka0 ax
      go_wp2_with fail
      exact bodyPost_ret (v := .tuple #[.agg #[_, _], .bool false]) (by simp [results, Try.results32, go_sem, ck1]) rfl ⟨_, _, rfl, ((om.set_ _ (by dsimp only; omega)).set_ _ (by dsimp only; omega)).base (by omega), (hbw0.setCell (by simp) _).setCell (by simp) _⟩
    · have t1 : decide (key ∈ r.keys) = false := decide_eq_false p
      have hge9 : (9 : Int) ≤ r.keys.length := by
        have : ¬ r.keys.length < 9 := fun h => h2 ⟨p, h⟩
        omega
      have P := Lib.hid p; clear p h2
      go_enter Try.func32, Try.ntmps32
      go_wp2_with fail
      have hbw0 : Below w.heap.size w ((w.alloc (.cells #[.slice A r.keys.length c, .slice B r.grs.length d] 30)).alloc (.cells #[.slice none 0 0, .slice none 0 0] 30)) := below_alloc' (below_alloc _ _) _
      have k0 : Blk ((w.alloc (.cells #[.slice A r.keys.length c, .slice B r.grs.length d] 30)).alloc (.cells #[.slice none 0 0, .slice none 0 0] 30)) (w.heap.size) 30 #[.slice A r.keys.length c, .slice B r.grs.length d] := by
        have hk := blk_alloc (Blk.new w 30 #[.slice A r.keys.length c, .slice B r.grs.length d]) (.cells #[.slice none 0 0, .slice none 0 0] 30)
        exact hk
      have k1 : Blk ((w.alloc (.cells #[.slice A r.keys.length c, .slice B r.grs.length d] 30)).alloc (.cells #[.slice none 0 0, .slice none 0 0] 30)) (w.heap.size + 1) 30 #[.slice none 0 0, .slice none 0 0] := by
        have hk := Blk.new (w.alloc (.cells #[.slice A r.keys.length c, .slice B r.grs.length d] 30)) 30 #[.slice none 0 0, .slice none 0 0]
        simp only [World.size_alloc] at hk
        exact hk
      have hsw0 : w.heap.size + 2 ≤ ((w.alloc (.cells #[.slice A r.keys.length c, .slice B r.grs.length d] 30)).alloc (.cells #[.slice none 0 0, .slice none 0 0] 30)).heap.size := by simp only [World.size_alloc]; omega
      generalize ((w.alloc (.cells #[.slice A r.keys.length c, .slice B r.grs.length d] 30)).alloc (.cells #[.slice none 0 0, .slice none 0 0] 30)) = w0 at *
      have ck0 := k0.cell
      have fk0 := k0.frozen
      have ck1 := k1.cell
      have fk1 := k1.frozen
      refine (specRingOk_any r _ _ _ _ _ (Nat.le_trans hhi hbw0.size) (sl_keep RInt.loc ha hbw0 hhi) (sl_keep RGr.loc h hbw0 hhi) true (by simp only [true_iff]; exact H1.out.1)).mono ?_
      rintro e w1 ⟨rfl, b1⟩
      replace k0 := blk_keep k0 b1
      replace ck0 := k0.cell
      replace fk0 := k0.frozen
      replace k1 := blk_keep k1 b1
      replace ck1 := k1.cell
      replace fk1 := k1.frozen
      replace hbw0 := below_below hbw0 b1
      go_wp2_with fail
      refine (l2Key_any key _ true (by simp only [true_iff]; exact H1.out.2)).mono ?_
      rintro e w2 ⟨rfl, rfl⟩
      go_wp2_with fail
      refine (l33Copy_any r _ _ _ _ _ (Nat.le_trans hhi hbw0.size) (sl_keep RInt.loc ha hbw0 hhi) (sl_keep RGr.loc h hbw0 hhi) hl1 hl2).mono ?_
      rintro e w2 ⟨v1, v2, rfl, o1, b2⟩
      replace k0 := blk_keep k0 b2
      replace ck0 := k0.cell
      replace fk0 := k0.frozen
      replace k1 := blk_keep k1 b2
      replace ck1 := k1.cell
      replace fk1 := k1.frozen
      replace hbw0 := below_below hbw0 b2
      have z2 := b2.size
      have z0 := k1.lt
      have z1 := hsw0
      have z3 := b1.size
      obtain ⟨A1, c1, rfl⟩ := o1.keys.form
      obtain ⟨A2, c2, rfl⟩ := o1.grs.form
      have ax := below_alloc w2 (.cells #[.slice A1 r.keys.length c1, .slice A2 r.grs.length c2] 30)
      have ka0 := (blk_keep k0 ax).cell
      go_wp2_with fail
      have hbwx : Below w2.heap.size w2 (w2.alloc (.cells #[.slice A1 r.keys.length c1, .slice A2 r.grs.length c2] 30)) := below_alloc _ _
      have m0 : Blk (w2.alloc (.cells #[.slice A1 r.keys.length c1, .slice A2 r.grs.length c2] 30)) (w2.heap.size) 30 #[.slice A1 r.keys.length c1, .slice A2 r.grs.length c2] := by
        have hk := Blk.new w2 30 #[.slice A1 r.keys.length c1, .slice A2 r.grs.length c2]
        exact hk
      have hswx : w2.heap.size + 1 ≤ (w2.alloc (.cells #[.slice A1 r.keys.length c1, .slice A2 r.grs.length c2] 30)).heap.size := by simp only [World.size_alloc]; omega
      generalize (w2.alloc (.cells #[.slice A1 r.keys.length c1, .slice A2 r.grs.length c2] 30)) = wx at *
      have cm0 := m0.cell
      have fm0 := m0.frozen
      replace k0 := blk_keep k0 hbwx
      replace ck0 := k0.cell
      replace fk0 := k0.frozen
      replace k1 := blk_keep k1 hbwx
      replace ck1 := k1.cell
      replace fk1 := k1.frozen
      replace hbw0 := below_below hbw0 hbwx
      have om := o1.below hbwx
      refine (l3Has_any r.keys key _ _ _ _ _ _ (sl_keep RInt.loc ha hbw0 hhi)).mono ?_
      rintro e w3 ⟨rfl, rfl⟩
      clear ka0 ax
      go_wp2_with fail
      exact bodyPost_ret (v := .tuple #[.agg #[_, _], .bool false]) (by simp [results, Try.results32, go_sem, ck1]) rfl ⟨_, _, rfl, ((om.set_ _ (by dsimp only; omega)).set_ _ (by dsimp only; omega)).base (by omega), (hbw0.setCell (by simp) _).setCell (by simp) _⟩
  · by_cases p : ringP r
    · have H1 := Lib.hid h1; clear h1
      have P := Lib.hid p; clear p
      have hk : ¬ (1 ≤ key ∧ key ≤ 99) := fun hk => H1.out ⟨P.out, hk⟩
      have HK := Lib.hid hk; clear hk
      go_enter Try.func32, Try.ntmps32
      go_wp2_with fail
      have hbw0 : Below w.heap.size w ((w.alloc (.cells #[.slice A r.keys.length c, .slice B r.grs.length d] 30)).alloc (.cells #[.slice none 0 0, .slice none 0 0] 30)) := below_alloc' (below_alloc _ _) _
      have k0 : Blk ((w.alloc (.cells #[.slice A r.keys.length c, .slice B r.grs.length d] 30)).alloc (.cells #[.slice none 0 0, .slice none 0 0] 30)) (w.heap.size) 30 #[.slice A r.keys.length c, .slice B r.grs.length d] := by
        have hk := blk_alloc (Blk.new w 30 #[.slice A r.keys.length c, .slice B r.grs.length d]) (.cells #[.slice none 0 0, .slice none 0 0] 30)
        exact hk
      have k1 : Blk ((w.alloc (.cells #[.slice A r.keys.length c, .slice B r.grs.length d] 30)).alloc (.cells #[.slice none 0 0, .slice none 0 0] 30)) (w.heap.size + 1) 30 #[.slice none 0 0, .slice none 0 0] := by
        have hk := Blk.new (w.alloc (.cells #[.slice A r.keys.length c, .slice B r.grs.length d] 30)) 30 #[.slice none 0 0, .slice none 0 0]
        simp only [World.size_alloc] at hk
        exact hk
      have hsw0 : w.heap.size + 2 ≤ ((w.alloc (.cells #[.slice A r.keys.length c, .slice B r.grs.length d] 30)).alloc (.cells #[.slice none 0 0, .slice none 0 0] 30)).heap.size := by simp only [World.size_alloc]; omega
      generalize ((w.alloc (.cells #[.slice A r.keys.length c, .slice B r.grs.length d] 30)).alloc (.cells #[.slice none 0 0, .slice none 0 0] 30)) = w0 at *
      have ck0 := k0.cell
      have fk0 := k0.frozen
      have ck1 := k1.cell
      have fk1 := k1.frozen
      refine (specRingOk_any r _ _ _ _ _ (Nat.le_trans hhi hbw0.size) (sl_keep RInt.loc ha hbw0 hhi) (sl_keep RGr.loc h hbw0 hhi) true (by simp only [true_iff]; exact P.out)).mono ?_
      rintro e w1 ⟨rfl, b1⟩
      replace k0 := blk_keep k0 b1
      replace ck0 := k0.cell
      replace fk0 := k0.frozen
      replace k1 := blk_keep k1 b1
      replace ck1 := k1.cell
      replace fk1 := k1.frozen
      replace hbw0 := below_below hbw0 b1
      go_wp2_with fail
      refine (l2Key_any key _ false (by simp only [Bool.false_eq_true, false_iff]; exact HK.out)).mono ?_
      rintro e w2 ⟨rfl, rfl⟩
      go_wp2_with fail
      exact bodyPost_ret (v := .tuple #[.agg #[.slice none 0 0, .slice none 0 0], .bool false]) (by simp [results, Try.results32, go_sem, ck1]) rfl ⟨_, _, rfl, OwnRg.nil _ _, (hbw0.setCell (by simp) _).setCell (by simp) _⟩
    · have P := Lib.hid p; clear p h1
      go_enter Try.func32, Try.ntmps32
      go_wp2_with fail
      have hbw0 : Below w.heap.size w ((w.alloc (.cells #[.slice A r.keys.length c, .slice B r.grs.length d] 30)).alloc (.cells #[.slice none 0 0, .slice none 0 0] 30)) := below_alloc' (below_alloc _ _) _
      have k0 : Blk ((w.alloc (.cells #[.slice A r.keys.length c, .slice B r.grs.length d] 30)).alloc (.cells #[.slice none 0 0, .slice none 0 0] 30)) (w.heap.size) 30 #[.slice A r.keys.length c, .slice B r.grs.length d] := by
        have hk := blk_alloc (Blk.new w 30 #[.slice A r.keys.length c, .slice B r.grs.length d]) (.cells #[.slice none 0 0, .slice none 0 0] 30)
        exact hk
      have k1 : Blk ((w.alloc (.cells #[.slice A r.keys.length c, .slice B r.grs.length d] 30)).alloc (.cells #[.slice none 0 0, .slice none 0 0] 30)) (w.heap.size + 1) 30 #[.slice none 0 0, .slice none 0 0] := by
        have hk := Blk.new (w.alloc (.cells #[.slice A r.keys.length c, .slice B r.grs.length d] 30)) 30 #[.slice none 0 0, .slice none 0 0]
        simp only [World.size_alloc] at hk
        exact hk
      have hsw0 : w.heap.size + 2 ≤ ((w.alloc (.cells #[.slice A r.keys.length c, .slice B r.grs.length d] 30)).alloc (.cells #[.slice none 0 0, .slice none 0 0] 30)).heap.size := by simp only [World.size_alloc]; omega
      generalize ((w.alloc (.cells #[.slice A r.keys.length c, .slice B r.grs.length d] 30)).alloc (.cells #[.slice none 0 0, .slice none 0 0] 30)) = w0 at *
      have ck0 := k0.cell
      have fk0 := k0.frozen
      have ck1 := k1.cell
      have fk1 := k1.frozen
      refine (specRingOk_any r _ _ _ _ _ (Nat.le_trans hhi hbw0.size) (sl_keep RInt.loc ha hbw0 hhi) (sl_keep RGr.loc h hbw0 hhi) false (by simp only [Bool.false_eq_true, false_iff]; exact P.out)).mono ?_
      rintro e w1 ⟨rfl, b1⟩
      replace k0 := blk_keep k0 b1
      replace ck0 := k0.cell
      replace fk0 := k0.frozen
      replace k1 := blk_keep k1 b1
      replace ck1 := k1.cell
      replace fk1 := k1.frozen
      replace hbw0 := below_below hbw0 b1
      go_wp2_with fail
      exact bodyPost_ret (v := .tuple #[.agg #[.slice none 0 0, .slice none 0 0], .bool false]) (by simp [results, Try.results32, go_sem, ck1]) rfl ⟨_, _, rfl, OwnRg.nil _ _, (hbw0.setCell (by simp) _).setCell (by simp) _⟩
end Go.Proofs.Ytdbeclnoaeiaeaa
