


/- Indexes merged: the reference, and the program by its search tree. -/
import Derived.Test.YtpdbohjgmghgkaaIxP
namespace Go.Proofs.Ytpdbohjgmghgkaa
open Go.RowKit

theorem bool_of (p : Prop) : ∃ q : Bool, q = true ↔ p := by
  by_cases h : p
  · exact ⟨true, by simp [h]⟩
  · exact ⟨false, by simp [h]⟩
theorem sp_good {l : List Sp} (h : ixP l) : ∀ x ∈ l, FSp.good x := fun x hx => by
  have := h.1 x hx
  unfold spP at this
  refine ⟨?_, ?_⟩ <;> unfold In64 <;> omega
/-- What IndexMerge gives. -/
def IMerge (a b r : List Sp) : Prop := ((ixP a ∧ ixP b) ∧ r = putsS a b) ∨ (¬ (ixP a ∧ ixP b) ∧ r = [])
theorem IMerge_total (a b : List Sp) : ∃ r, IMerge a b r := by
  by_cases h : ixP a ∧ ixP b
  · exact ⟨_, .inl ⟨h, rfl⟩⟩
  · exact ⟨_, .inr ⟨h, rfl⟩⟩
theorem IMerge.ix {a b r : List Sp} (h : IMerge a b r) : ixP r := by
  rcases h with ⟨h, rfl⟩ | ⟨_, rfl⟩
  · exact putsS_ix h.2 h.1.1
  · exact ix_nil
theorem putsS_snoc {a l : List Sp} {x : Sp} : putsS (a ++ [x]) l = putS x (putsS a l) := by rw [putsS_append]; rfl
set_option maxHeartbeats 4000000 in
theorem specIndexMerge_any (a b : List Sp) (va vb : Value) (w : World) (lo hi : Nat) (hhi : hi ≤ w.heap.size) (ha : RSl RSp 2 w lo hi a [va]) (hb : RSl RSp 2 w lo hi b [vb]) (hl : a.length + b.length ≤ 100000000) (r : List Sp) (hr : IMerge a b r) :
    Calls Try.prog 19 #[va, vb] w (NewSp w r) := by
  obtain ⟨A, c, rfl⟩ := ha.form
  obtain ⟨B, d, rfl⟩ := hb.form
  obtain ⟨_, hc, hx⟩ := ha.len_
  obtain ⟨_, hd, hy⟩ := hb.len_
  unfold maxLen at hx hy
  go_enter Try.func19, Try.ntmps19
  by_cases p1 : ixP a
  · have H1 := Lib.hid p1; clear p1
    go_wp2_with fail
    refine (specIndexOk_any a _ _ _ _ hhi ha true (by simp only [true_iff]; exact H1.out)).mono ?_
    rintro e w1 ⟨rfl, b1⟩
    go_wp2_with fail
    obtain ⟨q, hq⟩ := bool_of (ixP b)
    refine (specIndexOk_any b _ w1 _ _ (Nat.le_trans hhi b1.size) (sl_keep RSp.loc hb b1 hhi) q hq).mono ?_
    rintro e w2 ⟨rfl, b2⟩
    have bb := b1.trans (b2.mono b1.size)
    have ha2 := sl_keep RSp.loc ha bb hhi
    have hb2 := sl_keep RSp.loc hb bb hhi
    have hhi2 := Nat.le_trans hhi bb.size
    cases q with
    | true =>
      have p2 := hq.1 rfl
      clear hq
      have H2 := Lib.hid p2; clear p2
      obtain rfl : r = putsS a b := by
        rcases hr with ⟨_, h⟩ | ⟨h, _⟩
        · exact h
        · exact absurd ⟨H1.out, H2.out⟩ h
      clear hr
      have src := Lib.hid (src_flat (F := FSp) hb2 hhi2)
      go_wp2_with (at_builtin; refine app_copy (w := w2) (F := FSp) (below_alloc w2 (.cells #[] 89)) rfl (.tmp 16) (.tmp 17) 24 rfl elem_sp (Nat.le_refl _) rfl rfl (Lit0.new _ _ (Nat.le_refl _)) src.out (by omega) ?_; intro v3 w3 b3 o3; obtain ⟨A3, c3, rfl⟩ := o3.form)
      have b23 : Below w2.heap.size w2 w3 := below_below (below_alloc w2 (.cells #[] 89)) b3
      clear b3 src
      have ha3 := sl_keep RSp.loc ha2 b23 hhi2
      have hhi3 := Nat.le_trans hhi2 b23.size
      have bb3 := bb.trans (b23.mono bb.size)
      go_loopw [5, 6] (fun oo ii wr => ∃ k : Nat, k ≤ a.length ∧ ii = .int .i64 k ∧ OwnF FSp 89 wr w.heap.size oo (putsS (a.take k) b) ∧ Below w3.heap.size w3 wr) (fun oo ii _ => a.length - (intOf ii).toNat)
      case atStart => exact ⟨0, Nat.zero_le _, rfl, o3.base bb.size, Below.refl _ _⟩
      case round =>
        obtain ⟨k, hk, rfl, ho, br⟩ := hrel
        have ha4 := sl_keep RSp.loc ha3 br hhi3
        have hix : ixP (putsS (a.take k) b) := putsS_ix H2.out fun x hx => H1.out.1 x (List.mem_of_mem_take hx)
        have HIX := Lib.hid hix; clear hix
        have hlen : (putsS (a.take k) b).length ≤ 100000000 := by
          have := putsS_len (a := a.take k) (l := b)
          rw [List.length_take] at this
          omega
        have HLEN := Lib.hid hlen; clear hlen
        obtain ⟨A4, c4, rfl⟩ := ho.form
        revert ho
        generalize (putsS (a.take k) b).length = nL
        intro ho
        by_cases hlt : k < a.length
        · obtain ⟨x, hxk⟩ := some_of_lt hlt
          obtain ⟨b5, off, rfl, _, _, h64, hcell, hcell1⟩ := sp_at ha4 hxk
          have hnx : putsS (a.take (k + 1)) b = putS x (putsS (a.take k) b) := by rw [take_succ hxk, putsS_snoc]
          have HNX := Lib.hid hnx; clear hnx hxk
          go_wp2_with fail
          refine (l4Put_any x h64 (putsS (a.take k) b) _ wr w.heap.size wr.heap.size (Nat.le_refl _) (ho.sl (sp_good HIX.out) (Nat.le_refl _)) HIX.out.2 (by have := HLEN.out; omega)).mono ?_
          rintro e w5 ⟨v5, rfl, o5, b5'⟩
          obtain ⟨A5, c5, rfl⟩ := o5.form
          go_wp2_with fail
          go_roundw
          case rel => exact ⟨k + 1, by omega, by go_num, by rw [HNX.out]; exact o5.base (by have := br.size; have := bb3.size; omega), below_below br b5'⟩
          case measure => simp [intOf]; omega
        · obtain rfl : k = a.length := by omega
          rw [List.take_length] at ho
          go_wp2_with fail
          go_ret
          exact ⟨_, rfl, ho, below_below bb3 br⟩
    | false =>
      have p2 : ¬ ixP b := fun h => by have := hq.2 h; cases this
      clear hq
      obtain rfl : r = [] := by
        rcases hr with ⟨h, _⟩ | ⟨_, h⟩
        · exact absurd h.2 p2
        · exact h
      clear hr p2
      go_wp2_with fail
      go_ret
      exact ⟨_, rfl, OwnF.lit0 (Lit0.new _ _ bb.size), bb.trans ((below_alloc _ _).mono bb.size)⟩
  · obtain rfl : r = [] := by
      rcases hr with ⟨h, _⟩ | ⟨_, h⟩
      · exact absurd h.1 p1
      · exact h
    have H1 := Lib.hid p1; clear p1 hr
    go_wp2_with fail
    refine (specIndexOk_any a _ _ _ _ hhi ha false (by simp only [Bool.false_eq_true, false_iff]; exact H1.out)).mono ?_
    rintro e w1 ⟨rfl, b1⟩
    go_wp2_with fail
    go_ret
    exact ⟨_, rfl, OwnF.lit0 (Lit0.new _ _ b1.size), b1.trans ((below_alloc _ _).mono b1.size)⟩
end Go.Proofs.Ytpdbohjgmghgkaa
