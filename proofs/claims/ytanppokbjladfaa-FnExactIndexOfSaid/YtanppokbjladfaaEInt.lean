


/- The helpers of the exact laws for rows of ints. -/
import Derived.Test.YtanppokbjladfaaSt
import Derived.Test.YtanppokbjladfaaMkI
namespace Go.Proofs.Ytanppokbjladfaa
open Go.RowKit

theorem toIntS_own (xs : List Int) (v : Value) (w : World) (lo hi : Nat) (h : RSl RInt 1 w lo hi xs [v]) (hhi : hi ≤ w.heap.size) (hl : xs.length ≤ 1048576) :
    Calls Try.prog 167 #[v] w (NewFlat FInt 3 w xs) := by
  obtain ⟨A, c, rfl⟩ := h.form
  have hmk := Go.run_make_row' (P := Try.prog) 41 3 (.int .i64 0) 8 Try.underlying41 info_int rfl .i64 .i64 xs.length (by omega) (by omega) w
  go_enter Try.func167, Try.ntmps167
  go_wp2_with fail
  go_loopw [4] (fun i wr => ∃ k : Nat, k ≤ xs.length ∧ i = .int .i64 k ∧ Pre wr w.heap.size 3 xs.length ((xs.take k).map (Value.int .i64)) ∧ Below w.heap.size w wr) (fun i _ => xs.length - (intOf i).toNat)
  case atStart =>
    refine ⟨0, Nat.zero_le _, rfl, ?_, (Below.refl _ _).alloc (Nat.le_refl _) _⟩
    have := Pre.new w 3 (madeCells #[.int .i64 0] xs.length)
    rw [size_madeCells] at this
    exact this
  case round =>
    obtain ⟨k, hk, rfl, hp, hb⟩ := hrel
    by_cases hlt : k < xs.length
    · obtain ⟨x, hxk⟩ := some_of_lt hlt
      obtain ⟨b, off, rfl, _, hbb, _, hcell0⟩ := h.ints_at hxk
      have hcell : wr.cell? ⟨b, off + k, none⟩ = some (.int .i64 x) := (hb.cell (p := ⟨b, off + k, none⟩) (by show b < _; omega)).trans hcell0
      obtain ⟨u, hold⟩ := hp.there hlt
      have hfz := hp.frozen k
      have hpush := hp.push (.int .i64 x) (by simp; omega)
      have hlen : ((xs.take k).map (Value.int .i64)).length = k := by simp; omega
      rw [hlen, ← List.map_singleton, ← List.map_append, ← take_succ hxk] at hpush
      have HX := Lib.hid hxk; clear hxk
      have HL := Lib.hid hlen; clear hlen hcell0
      go_wp2_with fail
      go_roundw
      case rel => exact ⟨k + 1, by omega, by go_num, hpush, hb.setCell (Nat.le_refl _) _⟩
      case measure => simp [intOf]; omega
    · obtain rfl : k = xs.length := by omega
      rw [List.take_length, ← flats_int] at hp
      go_wp2_with fail
      go_ret
      exact ⟨_, rfl, Pre.own (F := FInt) (by show Pre _ _ _ (xs.length * 1) _; rw [Nat.mul_one]; exact hp) (Nat.le_refl _) (by unfold maxLen; omega), hb⟩
theorem szIntS_any (m c : Nat) (A : Option Addr) (k : Int) (w : World) (hm : m ≤ 9223372036854775807) (hk : 0 ≤ k) (hk' : k ≤ 1048576) (q : Int) (hq : (k - m < 0 ∧ q = -1) ∨ (0 ≤ k - m ∧ q = k - m)) :
    Calls Try.prog 166 #[.slice A m c, .int .i64 k] w fun e w' => e = .returned (.int .i64 q) ∧ w = w' := by
  rcases hq with ⟨h, rfl⟩ | ⟨h, rfl⟩
  · go_enter Try.func166, Try.ntmps166
    go_wp2_with fail
    go_ret
    exact ⟨rfl, rfl⟩
  · go_enter Try.func166, Try.ntmps166
    go_wp2_with fail
    go_ret
    exact ⟨rfl, rfl⟩
def NewOInt (w : World) (xs : List Int) (e : Ending) (w' : World) : Prop := ∃ v, e = .returned v ∧ OInts w' w.heap.size w'.heap.size xs [v] ∧ Below w.heap.size w w'
theorem toIntS_o (xs : List Int) (v : Value) (w : World) (lo hi : Nat) (h : RSl RInt 1 w lo hi xs [v]) (hhi : hi ≤ w.heap.size) (hl : xs.length ≤ 1048576) :
    Calls Try.prog 167 #[v] w (NewOInt w xs) := by
  refine (toIntS_own xs v w lo hi h hhi hl).mono ?_
  rintro e w1 ⟨v1, rfl, o1, b1⟩
  exact ⟨_, rfl, o1.orow (fun x hx => h.in64 x hx) b1.size fun g hg => (o1.at_ hg).2, b1⟩
end Go.Proofs.Ytanppokbjladfaa
