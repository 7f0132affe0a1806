


/- slices.Clone of flat rows. -/
import Derived.Test.YtdbeclnoaeiaeaaMk
import Derived.Test.YtdbeclnoaeiaeaaRgO
import Derived.WalkSpells
namespace Go.Proofs.Ytdbeclnoaeiaeaa
open Go.RowKit
theorem clone_int (xs : List Int) (v : Value) (w : World) (lo hi : Nat) (h : RSl (RFlat FInt) 1 w lo hi xs [v]) (hhi : hi ≤ w.heap.size) (hl : xs.length ≤ 1099511627776) :
    Calls Try.prog 76 #[v] w (NewFlat FInt 3 w xs) := by
  obtain ⟨A, c, rfl⟩ := h.form
  have src := Lib.hid (src_flat (F := FInt) h hhi)
  cases A with
  | none =>
    have h0 : xs = [] := by
      rcases Nat.eq_zero_or_pos xs.length with h0 | h0
      · exact List.eq_nil_of_length_eq_zero h0
      · obtain ⟨x, hx⟩ := some_of_lt h0
        obtain ⟨b, off, es, hA, _⟩ := h.at_ hx
        cases hA
    subst h0
    clear src h
    have hq := Go.Lib.run_eql_slice_nil (P := Try.prog) w 22 3 none 0 c 0 0 Try.underlying22
    go_enter Try.func76, Try.ntmps76
    go_wp2_with fail
    go_wp2_with fail
    go_ret
    exact ⟨_, rfl, OwnF.nil _ _ _, Below.refl _ _⟩
  | some ad =>
    have hq := Go.Lib.run_eql_slice_nil (P := Try.prog) w 22 3 (some ad) xs.length c 0 0 Try.underlying22
    have hb := below_alloc w (.cells #[] 3)
    have hw := Lib.hid (Lit0.new w 3 (Nat.le_refl _))
    go_enter Try.func76, Try.ntmps76
    go_wp2_with (at_builtin; refine app_copy (F := FInt) (xs := xs) hb rfl (.tmp 5) (.tmp 6) 22 rfl elem_int (Nat.le_refl _) rfl rfl hw.out src.out hl ?_; intro v' w' hb' ho)
    go_wp2_with fail
    go_ret
    exact ⟨_, rfl, ho, hb.trans (hb'.mono hb.size)⟩
theorem clone_gr (xs : List Gr) (v : Value) (w : World) (lo hi : Nat) (h : RSl (RFlat FGr) 3 w lo hi xs [v]) (hhi : hi ≤ w.heap.size) (hl : xs.length ≤ 1099511627776) :
    Calls Try.prog 77 #[v] w (NewFlat FGr 37 w xs) := by
  obtain ⟨A, c, rfl⟩ := h.form
  have src := Lib.hid (src_flat (F := FGr) h hhi)
  cases A with
  | none =>
    have h0 : xs = [] := by
      rcases Nat.eq_zero_or_pos xs.length with h0 | h0
      · exact List.eq_nil_of_length_eq_zero h0
      · obtain ⟨x, hx⟩ := some_of_lt h0
        obtain ⟨b, off, es, hA, _⟩ := h.at_ hx
        cases hA
    subst h0
    clear src h
    have hq := Go.Lib.run_eql_slice_nil (P := Try.prog) w 28 37 none 0 c 0 0 Try.underlying28
    go_enter Try.func77, Try.ntmps77
    go_wp2_with fail
    go_wp2_with fail
    go_ret
    exact ⟨_, rfl, OwnF.nil _ _ _, Below.refl _ _⟩
  | some ad =>
    have hq := Go.Lib.run_eql_slice_nil (P := Try.prog) w 28 37 (some ad) xs.length c 0 0 Try.underlying28
    have hb := below_alloc w (.cells #[] 37)
    have hw := Lib.hid (Lit0.new w 37 (Nat.le_refl _))
    go_enter Try.func77, Try.ntmps77
    go_wp2_with (at_builtin; refine app_copy (F := FGr) (xs := xs) hb rfl (.tmp 5) (.tmp 6) 28 rfl elem_gr (Nat.le_refl _) rfl rfl hw.out src.out hl ?_; intro v' w' hb' ho)
    go_wp2_with fail
    go_ret
    exact ⟨_, rfl, ho, hb.trans (hb'.mono hb.size)⟩
end Go.Proofs.Ytdbeclnoaeiaeaa
