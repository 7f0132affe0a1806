


/- The helpers of the exact laws for rings. -/
import Derived.Test.YtdbeclnoaeiaeaaEGrant
import Derived.Test.YtdbeclnoaeiaeaaMkI
namespace Go.Proofs.Ytdbeclnoaeiaeaa
open Go.RowKit

theorem toIntS_own (xs : List Int) (v : Value) (w : World) (lo hi : Nat) (h : RSl RInt 1 w lo hi xs [v]) (hhi : hi ≤ w.heap.size) (hl : xs.length ≤ 1048576) :
    Calls Try.prog 51 #[v] w (NewFlat FInt 3 w xs) := by
  obtain ⟨A, c, rfl⟩ := h.form
  have hmk := Go.run_make_row' (P := Try.prog) 22 3 (.int .i64 0) 8 Try.underlying22 info_int rfl .i64 .i64 xs.length (by omega) (by omega) w
  go_enter Try.func51, Try.ntmps51
  go_wp2_with fail
  go_loopw [4] (fun i wr => ∃ k : Nat, k ≤ xs.length ∧ i = .int .i64 k ∧ Pre wr w.heap.size 3 xs.length ((xs.take k).map (Value.int .i64)) ∧ Below w.heap.size w wr) (fun i _ => xs.length - (intOf i).toNat)
  case atStart =>
    refine ⟨0, Nat.zero_le _, rfl, ?_, (Below.refl _ _).alloc (Nat.le_refl _) _⟩
    have := Pre.new w 3 (madeCells #[.int .i64 0] xs.length)
    rw [size_madeCells] at this
    exact this
  case round =>
    obtain ⟨k, hk, rfl, hp, hb⟩ := hrel
    by_cases hlt : k < xs.length
    · obtain ⟨x, hxk⟩ := some_of_lt hlt
      obtain ⟨b, off, rfl, _, hbb, _, hcell0⟩ := h.ints_at hxk
      have hcell : wr.cell? ⟨b, off + k, none⟩ = some (.int .i64 x) := (hb.cell (p := ⟨b, off + k, none⟩) (by show b < _; omega)).trans hcell0
      obtain ⟨u, hold⟩ := hp.there hlt
      have hfz := hp.frozen k
      have hpush := hp.push (.int .i64 x) (by simp; omega)
      have hlen : ((xs.take k).map (Value.int .i64)).length = k := by simp; omega
      rw [hlen, ← List.map_singleton, ← List.map_append, ← take_succ hxk] at hpush
      have HX := Lib.hid hxk; clear hxk
      have HL := Lib.hid hlen; clear hlen hcell0
      go_wp2_with fail
      go_roundw
      case rel => exact ⟨k + 1, by omega, by go_num, hpush, hb.setCell (Nat.le_refl _) _⟩
      case measure => simp [intOf]; omega
    · obtain rfl : k = xs.length := by omega
      rw [List.take_length, ← flats_int] at hp
      go_wp2_with fail
      go_ret
      exact ⟨_, rfl, Pre.own (F := FInt) (by show Pre _ _ _ (xs.length * 1) _; rw [Nat.mul_one]; exact hp) (Nat.le_refl _) (by unfold maxLen; omega), hb⟩
theorem markC_marks (k : Int) : ∀ n, markC k n = (marks k n).map (Value.int .i64)
  | 0 => rfl
  | n + 1 => by show markC k n ++ [_] = (marks k n ++ [_]).map _; rw [markC_marks k n, List.map_append]; rfl
theorem markIntS_raw (m : Nat) (xs : List Int) (hm : xs.length = m) (v : Value) (w : World) (base : Nat) (k : Int) (h : OwnF FInt 3 w base v xs) (hl : m ≤ 1048576) (hk : 0 ≤ k) (hk' : k ≤ 1099511627776) :
    Calls Try.prog 66 #[v, .int .i64 k] w fun e w' => e = .returned (.int .i64 (k + m)) ∧ w'.ownsRow base 3 1 v m (markC k m) ∧ Chg (fun b => v.ownBlock = some b) w w' := by
  subst hm
  refine (markIntS_any xs v w base k (OwnI_iff.2 h) hl hk hk').mono ?_
  rintro e w' ⟨rfl, ho, hc⟩
  refine ⟨rfl, ?_, hc⟩
  rw [markC_marks]
  unfold OwnI at ho
  rw [marks_len] at ho
  exact ho
theorem heldIntS_raw (m : Nat) (v : Value) (w : World) (base : Nat) (k : Int) (h : w.ownsRow base 3 1 v m (markC k m)) (hl : m ≤ 1048576) (hk : 0 ≤ k) (hk' : k ≤ 1099511627776) :
    Calls Try.prog 68 #[v, .int .i64 k] w fun e w' => e = .returned (.int .i64 (k + m)) ∧ w = w' := by
  have h2 : OwnI w base v (marks k m) := by
    unfold OwnI
    rw [marks_len, ← markC_marks]
    exact h
  refine (heldIntS_any m v w base w.heap.size k (h2.sl (fun x hx => ?_) (Nat.le_refl _)) hl hk hk').mono ?_
  · obtain ⟨j, hj⟩ := List.mem_iff_getElem?.1 hx
    have hlt := lt_of_some hj
    rw [marks_len] at hlt
    rw [marks_get k m j hlt] at hj
    simp at hj
    subst hj
    exact ⟨by omega, by omega⟩
  · rintro e w' ⟨rfl, rfl⟩
    exact ⟨rfl, rfl⟩

set_option maxHeartbeats 1000000 in
theorem toRing_any (r : Rg) (va vb : Value) (w : World) (lo hi : Nat) (hhi : hi ≤ w.heap.size) (ha : RSl RInt 1 w lo hi r.keys [va]) (h : RSl RGr 3 w lo hi r.grs [vb]) (hl1 : r.keys.length ≤ 1048576) (hl2 : r.grs.length ≤ 1048576) :
    Calls Try.prog 21 #[.agg #[va, vb]] w (NewRg w r) := by
  obtain ⟨A, c, rfl⟩ := ha.form
  obtain ⟨B, d, rfl⟩ := h.form
  go_enter Try.func21, Try.ntmps21
  go_wp2_with fail
  have hbw0 : Below w.heap.size w (((w.alloc (.cells #[.slice A r.keys.length c, .slice B r.grs.length d] 25)).alloc (.cells #[.slice none 0 0, .slice none 0 0] 30)).alloc (.cells #[.slice none 0 0, .slice none 0 0] 30)) := below_alloc' (below_alloc' (below_alloc _ _) _) _
  have k0 : Blk (((w.alloc (.cells #[.slice A r.keys.length c, .slice B r.grs.length d] 25)).alloc (.cells #[.slice none 0 0, .slice none 0 0] 30)).alloc (.cells #[.slice none 0 0, .slice none 0 0] 30)) (w.heap.size) 25 #[.slice A r.keys.length c, .slice B r.grs.length d] := by
    have hk := blk_alloc (blk_alloc (Blk.new w 25 #[.slice A r.keys.length c, .slice B r.grs.length d]) (.cells #[.slice none 0 0, .slice none 0 0] 30)) (.cells #[.slice none 0 0, .slice none 0 0] 30)
    exact hk
  have k1 : Blk (((w.alloc (.cells #[.slice A r.keys.length c, .slice B r.grs.length d] 25)).alloc (.cells #[.slice none 0 0, .slice none 0 0] 30)).alloc (.cells #[.slice none 0 0, .slice none 0 0] 30)) (w.heap.size + 1) 30 #[.slice none 0 0, .slice none 0 0] := by
    have hk := blk_alloc (Blk.new (w.alloc (.cells #[.slice A r.keys.length c, .slice B r.grs.length d] 25)) 30 #[.slice none 0 0, .slice none 0 0]) (.cells #[.slice none 0 0, .slice none 0 0] 30)
    simp only [World.size_alloc] at hk
    exact hk
  have k2 : Blk (((w.alloc (.cells #[.slice A r.keys.length c, .slice B r.grs.length d] 25)).alloc (.cells #[.slice none 0 0, .slice none 0 0] 30)).alloc (.cells #[.slice none 0 0, .slice none 0 0] 30)) (w.heap.size + 1 + 1) 30 #[.slice none 0 0, .slice none 0 0] := by
    have hk := Blk.new ((w.alloc (.cells #[.slice A r.keys.length c, .slice B r.grs.length d] 25)).alloc (.cells #[.slice none 0 0, .slice none 0 0] 30)) 30 #[.slice none 0 0, .slice none 0 0]
    simp only [World.size_alloc] at hk
    exact hk
  have hsw0 : w.heap.size + 3 ≤ (((w.alloc (.cells #[.slice A r.keys.length c, .slice B r.grs.length d] 25)).alloc (.cells #[.slice none 0 0, .slice none 0 0] 30)).alloc (.cells #[.slice none 0 0, .slice none 0 0] 30)).heap.size := by simp only [World.size_alloc]; omega
  generalize (((w.alloc (.cells #[.slice A r.keys.length c, .slice B r.grs.length d] 25)).alloc (.cells #[.slice none 0 0, .slice none 0 0] 30)).alloc (.cells #[.slice none 0 0, .slice none 0 0] 30)) = w0 at *
  have ck0 := k0.cell
  have fk0 := k0.frozen
  have ck1 := k1.cell
  have fk1 := k1.frozen
  have ck2 := k2.cell
  have fk2 := k2.frozen
  have f1 := sl_keep RInt.loc ha hbw0 hhi
  have g1 := sl_keep RGr.loc h hbw0 hhi
  have hhi0 := Nat.le_trans hhi hbw0.size
  refine (toIntS_own r.keys _ _ _ _ f1 hhi0 hl1).mono ?_
  rintro e w1 ⟨v1, rfl, o1, b1⟩
  replace k0 := blk_keep k0 b1
  replace ck0 := k0.cell
  replace fk0 := k0.frozen
  replace k1 := blk_keep k1 b1
  replace ck1 := k1.cell
  replace fk1 := k1.frozen
  replace k2 := blk_keep k2 b1
  replace ck2 := k2.cell
  replace fk2 := k2.frozen
  obtain ⟨A1, c1, rfl⟩ := o1.form
  go_wp2_with fail
  replace o1 := o1.set_ (p := ⟨w.heap.size + 1 + 1, 0, none⟩) (.slice A1 r.keys.length c1) (by dsimp only; omega)
  replace hbw0 := (hbw0.trans (b1.mono hbw0.size)).setCell (p := ⟨w.heap.size + 1 + 1, 0, none⟩) (by dsimp only; omega) (.slice A1 r.keys.length c1)
  replace k2 := k2.set_ 0 (.slice A1 r.keys.length c1)
  simp only [List.setIfInBounds_toArray, List.set_cons_zero, List.set_cons_succ] at k2
  replace k0 := blk_ne k0 (p := ⟨w.heap.size + 1 + 1, 0, none⟩) (.slice A1 r.keys.length c1) (by first | (dsimp only; omega) | (simp; done) | (simp; omega))
  replace k1 := blk_ne k1 (p := ⟨w.heap.size + 1 + 1, 0, none⟩) (.slice A1 r.keys.length c1) (by first | (dsimp only; omega) | (simp; done) | (simp; omega))
  have hsw2 : w1.heap.size ≤ (w1.setCell ⟨w.heap.size + 1 + 1, 0, none⟩ (.slice A1 r.keys.length c1)).heap.size := by simp only [World.size_setCell]; exact Nat.le_refl _
  generalize w1.setCell ⟨w.heap.size + 1 + 1, 0, none⟩ (.slice A1 r.keys.length c1) = w2 at *
  replace ck2 := k2.cell
  replace fk2 := k2.frozen
  replace ck0 := k0.cell
  replace fk0 := k0.frozen
  replace ck1 := k1.cell
  replace fk1 := k1.frozen
  have f1 := sl_keep RGr.loc h hbw0 hhi
  refine (toGrantS_any r.grs _ _ _ _ f1 (Nat.le_trans hhi hbw0.size) hl2).mono ?_
  rintro e w3 ⟨v3, rfl, o3, b3⟩
  replace k0 := blk_keep k0 b3
  replace ck0 := k0.cell
  replace fk0 := k0.frozen
  replace k1 := blk_keep k1 b3
  replace ck1 := k1.cell
  replace fk1 := k1.frozen
  replace k2 := blk_keep k2 b3
  replace ck2 := k2.cell
  replace fk2 := k2.frozen
  obtain ⟨A3, c3, rfl⟩ := o3.form
  go_wp2_with fail
  have z1 := b1.size
  have z3 := b3.size
  exact bodyPost_ret (v := .agg #[_, _]) (by simp [results, Try.results21, go_sem, ck1]) rfl ⟨_, _, rfl, ⟨(((((o1.below b3).set_ _ (by dsimp only; omega)).set_ _ (by dsimp only; omega)).set_ _ (by dsimp only; omega)).base (by omega)), ((((o3.set_ _ (by dsimp only; omega)).set_ _ (by dsimp only; omega)).set_ _ (by dsimp only; omega)).base (by omega))⟩,
    (((hbw0.trans (b3.mono hbw0.size)).setCell (by dsimp only; omega) _).setCell (by dsimp only; omega) _).setCell (by dsimp only; omega) _⟩

def szP (r : Rg) : Prop := r.keys.length ≤ 1048576 ∧ r.grs.length ≤ 1048576
theorem szIntS_any (m c : Nat) (A : Option Addr) (k : Int) (w : World) (hm : m ≤ 9223372036854775807) (hk : 0 ≤ k) (hk' : k ≤ 1048576) (q : Int) (hq : (k - m < 0 ∧ q = -1) ∨ (0 ≤ k - m ∧ q = k - m)) :
    Calls Try.prog 45 #[.slice A m c, .int .i64 k] w fun e w' => e = .returned (.int .i64 q) ∧ w = w' := by
  rcases hq with ⟨h, rfl⟩ | ⟨h, rfl⟩
  · go_enter Try.func45, Try.ntmps45
    go_wp2_with fail
    go_ret
    exact ⟨rfl, rfl⟩
  · go_enter Try.func45, Try.ntmps45
    go_wp2_with fail
    go_ret
    exact ⟨rfl, rfl⟩
def SzRing (r : Rg) (w : World) (e : Ending) (w' : World) : Prop := (∃ k : Int, e = .returned (.int .i64 k) ∧ ((k < 0 ∧ ¬ szP r) ∨ (0 ≤ k ∧ szP r) ∨ k = -1)) ∧ Below w.heap.size w w'
theorem szRing_any (r : Rg) (va vb : Value) (w : World) (lo hi : Nat) (ha : RSl RInt 1 w lo hi r.keys [va]) (h : RSl RGr 3 w lo hi r.grs [vb]) :
    Calls Try.prog 19 #[.agg #[va, vb], .int .i64 1048576] w (SzRing r w) := by
  obtain ⟨A, c, rfl⟩ := ha.form
  obtain ⟨B, d, rfl⟩ := h.form
  obtain ⟨_, hc, hx⟩ := ha.len_
  obtain ⟨_, hd, hy⟩ := h.len_
  unfold maxLen at hx hy
  by_cases h1 : 1048576 - (r.keys.length : Int) < 0
  · go_enter Try.func19, Try.ntmps19
    go_wp2_with fail
    refine (szIntS_any r.keys.length c A 1048576 _ (by omega) (by omega) (by omega) (-1) (.inl ⟨by omega, rfl⟩)).mono ?_
    rintro e w1 ⟨rfl, rfl⟩
    go_wp2_with fail
    go_ret
    exact ⟨⟨-1, rfl, .inr (.inr rfl)⟩, below_alloc _ _⟩
  · by_cases h2 : 1048576 - (r.keys.length : Int) - (r.grs.length : Int) < 0
    · go_enter Try.func19, Try.ntmps19
      go_wp2_with fail
      refine (szIntS_any r.keys.length c A 1048576 _ (by omega) (by omega) (by omega) (1048576 - (r.keys.length : Int)) (.inr ⟨by omega, rfl⟩)).mono ?_
      rintro e w1 ⟨rfl, rfl⟩
      go_wp2_with fail
      refine (szGrantS_any r.grs.length d B (1048576 - (r.keys.length : Int)) _ (by omega) (by omega) (by omega) (-1) (.inl ⟨by omega, rfl⟩)).mono ?_
      rintro e w1 ⟨rfl, rfl⟩
      go_wp2_with fail
      go_ret
      exact ⟨⟨-1, rfl, .inr (.inr rfl)⟩, below_alloc _ _⟩
    · go_enter Try.func19, Try.ntmps19
      go_wp2_with fail
      refine (szIntS_any r.keys.length c A 1048576 _ (by omega) (by omega) (by omega) (1048576 - (r.keys.length : Int)) (.inr ⟨by omega, rfl⟩)).mono ?_
      rintro e w1 ⟨rfl, rfl⟩
      go_wp2_with fail
      refine (szGrantS_any r.grs.length d B (1048576 - (r.keys.length : Int)) _ (by omega) (by omega) (by omega) (1048576 - (r.keys.length : Int) - (r.grs.length : Int)) (.inr ⟨by omega, rfl⟩)).mono ?_
      rintro e w1 ⟨rfl, rfl⟩
      go_wp2_with fail
      go_ret
      exact ⟨⟨_, rfl, .inr (.inl ⟨by omega, by omega, by omega⟩)⟩, below_alloc _ _⟩

theorem eqRing_any (r s : Rg) (va vb vc vd : Value) (w : World) (lo hi lo2 hi2 : Nat) (hhi : hi ≤ w.heap.size) (hhi2 : hi2 ≤ w.heap.size) (ha : RSl RInt 1 w lo hi r.keys [va]) (h : RSl RGr 3 w lo hi r.grs [vb])
    (ha2 : RSl RInt 1 w lo2 hi2 s.keys [vc]) (h2 : RSl RGr 3 w lo2 hi2 s.grs [vd]) (b : Bool) (hb : b = true ↔ r = s) :
    Calls Try.prog 23 #[.agg #[va, vb], .agg #[vc, vd]] w fun e w' => e = .returned (.bool b) ∧ Below w.heap.size w w' := by
  have HB := Lib.hid hb; clear hb
  obtain ⟨A, c, rfl⟩ := ha.form
  obtain ⟨B, d, rfl⟩ := h.form
  obtain ⟨A2, c2, rfl⟩ := ha2.form
  obtain ⟨B2, d2, rfl⟩ := h2.form
  by_cases h1 : r.keys = s.keys
  · have H1 := Lib.hid h1; clear h1
    by_cases h2' : r.grs = s.grs
    · have ht : b = true := HB.out.2 (by cases r; cases s; simp only [Rg.mk.injEq]; exact ⟨H1.out, h2'⟩)
      have HT := Lib.hid ht; clear ht
      have H2 := Lib.hid h2'; clear h2'
      go_enter Try.func23, Try.ntmps23
      go_wp2_with fail
      have hbw0 : Below w.heap.size w ((w.alloc (.cells #[.slice A r.keys.length c, .slice B r.grs.length d] 30)).alloc (.cells #[.slice A2 s.keys.length c2, .slice B2 s.grs.length d2] 30)) := below_alloc' (below_alloc _ _) _
      have k0 : Blk ((w.alloc (.cells #[.slice A r.keys.length c, .slice B r.grs.length d] 30)).alloc (.cells #[.slice A2 s.keys.length c2, .slice B2 s.grs.length d2] 30)) (w.heap.size) 30 #[.slice A r.keys.length c, .slice B r.grs.length d] := by
        have hk := blk_alloc (Blk.new w 30 #[.slice A r.keys.length c, .slice B r.grs.length d]) (.cells #[.slice A2 s.keys.length c2, .slice B2 s.grs.length d2] 30)
        exact hk
      have k1 : Blk ((w.alloc (.cells #[.slice A r.keys.length c, .slice B r.grs.length d] 30)).alloc (.cells #[.slice A2 s.keys.length c2, .slice B2 s.grs.length d2] 30)) (w.heap.size + 1) 30 #[.slice A2 s.keys.length c2, .slice B2 s.grs.length d2] := by
        have hk := Blk.new (w.alloc (.cells #[.slice A r.keys.length c, .slice B r.grs.length d] 30)) 30 #[.slice A2 s.keys.length c2, .slice B2 s.grs.length d2]
        simp only [World.size_alloc] at hk
        exact hk
      have hsw0 : w.heap.size + 2 ≤ ((w.alloc (.cells #[.slice A r.keys.length c, .slice B r.grs.length d] 30)).alloc (.cells #[.slice A2 s.keys.length c2, .slice B2 s.grs.length d2] 30)).heap.size := by simp only [World.size_alloc]; omega
      generalize ((w.alloc (.cells #[.slice A r.keys.length c, .slice B r.grs.length d] 30)).alloc (.cells #[.slice A2 s.keys.length c2, .slice B2 s.grs.length d2] 30)) = w0 at *
      have ck0 := k0.cell
      have fk0 := k0.frozen
      have ck1 := k1.cell
      have fk1 := k1.frozen
      refine (eqIntS_any r.keys s.keys _ _ _ lo hi lo2 hi2 (sl_keep RInt.loc ha hbw0 hhi) (sl_keep RInt.loc ha2 hbw0 hhi2)).mono ?_
      rintro e w1 ⟨rfl, n1, rfl⟩
      rw [decide_eq_true H1.out]
      have e1 := sl_keep RGr.loc h (below_drewN hbw0 n1) hhi
      have e2 := sl_keep RGr.loc h2 (below_drewN hbw0 n1) hhi2
      replace hbw0 := below_drewN hbw0 n1
      have z1 := hbw0.size
      go_wp2_with fail
      refine (eqGrantS_any r.grs s.grs _ _ _ lo hi lo2 hi2 e1 e2 (Nat.le_trans hhi z1) (Nat.le_trans hhi2 z1) true (by simp only [true_iff]; exact H2.out)).mono ?_
      rintro e w5 ⟨rfl, b5⟩
      go_wp2_with fail
      go_ret
      exact ⟨ret_bool HT.out.symm, hbw0.trans (b5.mono hbw0.size)⟩
    · have ht : b = false := by rw [← Bool.not_eq_true, HB.out]; rintro rfl; exact h2' rfl
      have HT := Lib.hid ht; clear ht
      have H2 := Lib.hid h2'; clear h2'
      go_enter Try.func23, Try.ntmps23
      go_wp2_with fail
      have hbw0 : Below w.heap.size w ((w.alloc (.cells #[.slice A r.keys.length c, .slice B r.grs.length d] 30)).alloc (.cells #[.slice A2 s.keys.length c2, .slice B2 s.grs.length d2] 30)) := below_alloc' (below_alloc _ _) _
      have k0 : Blk ((w.alloc (.cells #[.slice A r.keys.length c, .slice B r.grs.length d] 30)).alloc (.cells #[.slice A2 s.keys.length c2, .slice B2 s.grs.length d2] 30)) (w.heap.size) 30 #[.slice A r.keys.length c, .slice B r.grs.length d] := by
        have hk := blk_alloc (Blk.new w 30 #[.slice A r.keys.length c, .slice B r.grs.length d]) (.cells #[.slice A2 s.keys.length c2, .slice B2 s.grs.length d2] 30)
        exact hk
      have k1 : Blk ((w.alloc (.cells #[.slice A r.keys.length c, .slice B r.grs.length d] 30)).alloc (.cells #[.slice A2 s.keys.length c2, .slice B2 s.grs.length d2] 30)) (w.heap.size + 1) 30 #[.slice A2 s.keys.length c2, .slice B2 s.grs.length d2] := by
        have hk := Blk.new (w.alloc (.cells #[.slice A r.keys.length c, .slice B r.grs.length d] 30)) 30 #[.slice A2 s.keys.length c2, .slice B2 s.grs.length d2]
        simp only [World.size_alloc] at hk
        exact hk
      have hsw0 : w.heap.size + 2 ≤ ((w.alloc (.cells #[.slice A r.keys.length c, .slice B r.grs.length d] 30)).alloc (.cells #[.slice A2 s.keys.length c2, .slice B2 s.grs.length d2] 30)).heap.size := by simp only [World.size_alloc]; omega
      generalize ((w.alloc (.cells #[.slice A r.keys.length c, .slice B r.grs.length d] 30)).alloc (.cells #[.slice A2 s.keys.length c2, .slice B2 s.grs.length d2] 30)) = w0 at *
      have ck0 := k0.cell
      have fk0 := k0.frozen
      have ck1 := k1.cell
      have fk1 := k1.frozen
      refine (eqIntS_any r.keys s.keys _ _ _ lo hi lo2 hi2 (sl_keep RInt.loc ha hbw0 hhi) (sl_keep RInt.loc ha2 hbw0 hhi2)).mono ?_
      rintro e w1 ⟨rfl, n1, rfl⟩
      rw [decide_eq_true H1.out]
      have e1 := sl_keep RGr.loc h (below_drewN hbw0 n1) hhi
      have e2 := sl_keep RGr.loc h2 (below_drewN hbw0 n1) hhi2
      replace hbw0 := below_drewN hbw0 n1
      have z1 := hbw0.size
      go_wp2_with fail
      refine (eqGrantS_any r.grs s.grs _ _ _ lo hi lo2 hi2 e1 e2 (Nat.le_trans hhi z1) (Nat.le_trans hhi2 z1) false (by simp only [Bool.false_eq_true, false_iff]; exact H2.out)).mono ?_
      rintro e w5 ⟨rfl, b5⟩
      go_wp2_with fail
      go_ret
      exact ⟨ret_bool HT.out.symm, hbw0.trans (b5.mono hbw0.size)⟩
  · have ht : b = false := by rw [← Bool.not_eq_true, HB.out]; rintro rfl; exact h1 rfl
    have HT := Lib.hid ht; clear ht
    have H1 := Lib.hid h1; clear h1
    go_enter Try.func23, Try.ntmps23
    go_wp2_with fail
    have hbw0 : Below w.heap.size w ((w.alloc (.cells #[.slice A r.keys.length c, .slice B r.grs.length d] 30)).alloc (.cells #[.slice A2 s.keys.length c2, .slice B2 s.grs.length d2] 30)) := below_alloc' (below_alloc _ _) _
    have k0 : Blk ((w.alloc (.cells #[.slice A r.keys.length c, .slice B r.grs.length d] 30)).alloc (.cells #[.slice A2 s.keys.length c2, .slice B2 s.grs.length d2] 30)) (w.heap.size) 30 #[.slice A r.keys.length c, .slice B r.grs.length d] := by
      have hk := blk_alloc (Blk.new w 30 #[.slice A r.keys.length c, .slice B r.grs.length d]) (.cells #[.slice A2 s.keys.length c2, .slice B2 s.grs.length d2] 30)
      exact hk
    have k1 : Blk ((w.alloc (.cells #[.slice A r.keys.length c, .slice B r.grs.length d] 30)).alloc (.cells #[.slice A2 s.keys.length c2, .slice B2 s.grs.length d2] 30)) (w.heap.size + 1) 30 #[.slice A2 s.keys.length c2, .slice B2 s.grs.length d2] := by
      have hk := Blk.new (w.alloc (.cells #[.slice A r.keys.length c, .slice B r.grs.length d] 30)) 30 #[.slice A2 s.keys.length c2, .slice B2 s.grs.length d2]
      simp only [World.size_alloc] at hk
      exact hk
    have hsw0 : w.heap.size + 2 ≤ ((w.alloc (.cells #[.slice A r.keys.length c, .slice B r.grs.length d] 30)).alloc (.cells #[.slice A2 s.keys.length c2, .slice B2 s.grs.length d2] 30)).heap.size := by simp only [World.size_alloc]; omega
    generalize ((w.alloc (.cells #[.slice A r.keys.length c, .slice B r.grs.length d] 30)).alloc (.cells #[.slice A2 s.keys.length c2, .slice B2 s.grs.length d2] 30)) = w0 at *
    have ck0 := k0.cell
    have fk0 := k0.frozen
    have ck1 := k1.cell
    have fk1 := k1.frozen
    refine (eqIntS_any r.keys s.keys _ _ _ lo hi lo2 hi2 (sl_keep RInt.loc ha hbw0 hhi) (sl_keep RInt.loc ha2 hbw0 hhi2)).mono ?_
    rintro e w1 ⟨rfl, n1, rfl⟩
    rw [decide_eq_false H1.out]
    go_wp2_with fail
    go_ret
    exact ⟨ret_bool HT.out.symm, below_drewN hbw0 n1⟩
/-- A ring of marks. -/
def MarksRg (r : Rg) (va vb : Value) (base : Nat) (w : World) : Prop := w.ownsRow base 3 1 va r.keys.length (markC 1 (r.keys.length)) ∧ w.ownsRow base 37 3 vb r.grs.length (markC (1 + r.keys.length) (r.grs.length * 3))
def MarkRg (r : Rg) (va vb : Value) (base : Nat) (w : World) (e : Ending) (w' : World) : Prop := e = .returned (.int .i64 (1 + r.keys.length + r.grs.length * 3)) ∧ MarksRg r va vb base w' ∧ Chg (fun b => va.ownBlock = some b ∨ vb.ownBlock = some b) w w'
theorem markRing_any (r : Rg) (va vb : Value) (w : World) (base : Nat) (h : OwnRg w base va vb r) (hdis : ∀ b, va.ownBlock = some b → vb.ownBlock ≠ some b) (hl1 : r.keys.length ≤ 1048576) (hl2 : r.grs.length ≤ 1048576) :
    Calls Try.prog 37 #[.agg #[va, vb], .int .i64 1] w (MarkRg r va vb base w) := by
  obtain ⟨A, c, rfl⟩ := h.keys.form
  obtain ⟨B, d, rfl⟩ := h.grs.form
  go_enter Try.func37, Try.ntmps37
  go_wp2_with fail
  have hbw0 : Below w.heap.size w (w.alloc (.cells #[.slice A r.keys.length c, .slice B r.grs.length d] 30)) := below_alloc _ _
  have k0 : Blk (w.alloc (.cells #[.slice A r.keys.length c, .slice B r.grs.length d] 30)) (w.heap.size) 30 #[.slice A r.keys.length c, .slice B r.grs.length d] := by
    have hk := Blk.new w 30 #[.slice A r.keys.length c, .slice B r.grs.length d]
    exact hk
  have hsw0 : w.heap.size + 1 ≤ (w.alloc (.cells #[.slice A r.keys.length c, .slice B r.grs.length d] 30)).heap.size := by simp only [World.size_alloc]; omega
  generalize (w.alloc (.cells #[.slice A r.keys.length c, .slice B r.grs.length d] 30)) = w0 at *
  have ck0 := k0.cell
  have fk0 := k0.frozen
  refine (markIntS_raw r.keys.length r.keys rfl _ _ base 1 (h.keys.below hbw0) hl1 (by omega) (by omega)).mono ?_
  rintro e w1 ⟨rfl, o1, h1⟩
  have ch : Chg (fun b => (Value.slice A r.keys.length c).ownBlock = some b ∨ (Value.slice B r.grs.length d).ownBlock = some b) w w1 := (Chg.of_below (S := fun b => (Value.slice A r.keys.length c).ownBlock = some b ∨ (Value.slice B r.grs.length d).ownBlock = some b) hbw0).trans h1 fun i _ hi => .inl hi
  have g1 := ((h.grs.below hbw0).chg h1 fun b hb hs => hdis b hs hb)
  replace k0 : Blk w1 w.heap.size 30 #[.slice A r.keys.length c, .slice B r.grs.length d] := (h1.block _ (by omega) fun hs => by have := h.keys.at_ hs; omega).trans k0
  replace ck0 := k0.cell
  go_wp2_with fail
  refine (markGrantS_any r.grs.length (flats FGr r.grs) _ _ base (1 + r.keys.length) g1 hl2 (by omega) (by omega)).mono ?_
  rintro e w2 ⟨rfl, o2, h2⟩
  have o1' := own_chg o1 h2 fun b hb hs => hdis b hb hs
  go_wp2_with fail
  go_ret
  exact ⟨rfl, ⟨o1', o2⟩, ch.trans h2 fun i _ hi => .inr hi⟩
theorem heldRing_any (r : Rg) (va vb : Value) (w : World) (base : Nat) (h : MarksRg r va vb base w) (hl1 : r.keys.length ≤ 1048576) (hl2 : r.grs.length ≤ 1048576) :
    Calls Try.prog 38 #[.agg #[va, vb], .int .i64 1] w fun e w' => e = .returned (.int .i64 (1 + r.keys.length + r.grs.length * 3)) ∧ Below w.heap.size w w' := by
  obtain ⟨o1, o2⟩ := h
  obtain ⟨A, c, rfl⟩ := own_form o1
  obtain ⟨B, d, rfl⟩ := own_form o2
  go_enter Try.func38, Try.ntmps38
  go_wp2_with fail
  have hbw0 : Below w.heap.size w (w.alloc (.cells #[.slice A r.keys.length c, .slice B r.grs.length d] 30)) := below_alloc _ _
  have k0 : Blk (w.alloc (.cells #[.slice A r.keys.length c, .slice B r.grs.length d] 30)) (w.heap.size) 30 #[.slice A r.keys.length c, .slice B r.grs.length d] := by
    have hk := Blk.new w 30 #[.slice A r.keys.length c, .slice B r.grs.length d]
    exact hk
  have hsw0 : w.heap.size + 1 ≤ (w.alloc (.cells #[.slice A r.keys.length c, .slice B r.grs.length d] 30)).heap.size := by simp only [World.size_alloc]; omega
  generalize (w.alloc (.cells #[.slice A r.keys.length c, .slice B r.grs.length d] 30)) = w0 at *
  have ck0 := k0.cell
  have fk0 := k0.frozen
  refine (heldIntS_raw r.keys.length _ _ base 1 (own_below' o1 hbw0) hl1 (by omega) (by omega)).mono ?_
  rintro e w1 ⟨rfl, rfl⟩
  go_wp2_with fail
  refine (heldGrantS_any r.grs.length _ _ base (1 + r.keys.length) (own_below' o2 hbw0) hl2 (by omega) (by omega)).mono ?_
  rintro e w1 ⟨rfl, rfl⟩
  go_wp2_with fail
  go_ret
  exact ⟨rfl, hbw0⟩
end Go.Proofs.Ytdbeclnoaeiaeaa
