


/- Logs: LogOk, LogFork, LogBegins, where both logs are right. -/
import Derived.Test.YtpdkgpbfmpekgaaGreatDoorLnk
import Derived.Test.YtpdkgpbfmpekgaaGreatDoorGL
namespace Go.Proofs.YtpdkgpbfmpekgaaGreatDoor
open Go.RowKit

def okHd (x : Hd) : Prop := (1 ≤ x.b ∧ x.b ≤ 2) ∧ 1 ≤ x.s ∧ x.s ≤ 20
def okLog (l : List Hd) : Prop := l.length ≤ 9 ∧ ∀ x ∈ l, okHd x
theorem headOk_yes (x : Hd) (hx : okHd x) (w : World) : Calls Tryz.prog 116 #[.agg #[.int .i64 x.b, .int .i64 x.s]] w fun e w' => e = .returned (.bool true) ∧ Below w.heap.size w w' := by
  obtain ⟨⟨h1, h2⟩, h3, h4⟩ := hx
  have t3 : decide (1 ≤ x.s) = true := decide_eq_true h3
  have t4 : decide (x.s ≤ 20) = true := decide_eq_true h4
  by_cases e : x.b = 1
  · have t1 : (x.b == 1) = true := beq_iff_eq.2 e
    clear h1 h2 e h3 h4
    go_enter Tryz.func116, Tryz.ntmps116
    go_wp2_with fail
    go_ret
    exact ⟨rfl, by repeat (first | exact Below.refl _ _ | refine Below.alloc ?_ (by simp) _)⟩
  · have t1 : (x.b == 1) = false := beq_eq_false_iff_ne.2 e
    have t2 : (x.b == 2) = true := beq_iff_eq.2 (by omega)
    clear h1 h2 e h3 h4
    go_enter Tryz.func116, Tryz.ntmps116
    go_wp2_with fail
    go_ret
    exact ⟨rfl, by repeat (first | exact Below.refl _ _ | refine Below.alloc ?_ (by simp) _)⟩
theorem logOk1_no (x : Hd) (hx : okHd x) (w : World) : Calls Tryz.prog 115 #[.agg #[.int .i64 x.b, .int .i64 x.s]] w fun e w' => e = .returned (.bool false) ∧ Below w.heap.size w w' := by
  go_enter Tryz.func115, Tryz.ntmps115
  go_wp2_with fail
  refine (headOk_yes x hx _).mono ?_
  rintro e w1 ⟨rfl, b1⟩
  have hb := (below_alloc w (.cells #[.int .i64 x.b, .int .i64 x.s] 76))
  go_wp2_with fail
  go_ret
  exact ⟨rfl, below_below hb b1⟩
theorem isFnLk1 : IsFn 115 := isFn Tryz.func115 (by kernel_rfl) rfl
set_option maxRecDepth 100000 in
theorem indexFunc_ok (xs : List Hd) (hok : ∀ x ∈ xs, okHd x) (v : Value) (w : World) (lo hi : Nat) (h : RHdsL w lo hi xs [v]) (hhi : hi ≤ w.heap.size) :
    Calls Tryz.prog 166 #[v, .func (.func 115) #[] #[]] w fun e w' => e = .returned (.int .i64 (-1)) ∧ Below w.heap.size w w' := by
  obtain ⟨A, c, rfl⟩ := RSl.form h
  obtain ⟨_, hc, hx⟩ := h.len_
  unfold maxLen at hx
  have HF := Lib.hid hok; clear hok
  go_enter Tryz.func166, Tryz.ntmps166
  go_wp2_with fail
  go_loopw [8] (fun ii wr => ∃ k : Nat, k ≤ xs.length ∧ ii = .int .i64 k ∧ Below w.heap.size w wr) (fun ii _ => xs.length - (intOf ii).toNat)
  case atStart => exact ⟨0, Nat.zero_le _, rfl, Below.refl _ _⟩
  case round =>
    obtain ⟨k, hk, rfl, hbr⟩ := hrel
    by_cases hlt : k < xs.length
    · obtain ⟨x, hxk⟩ := some_of_lt hlt
      obtain ⟨b, off, es, e0, _, hbb, _, ⟨rfl, hgd⟩, hcc⟩ := (RHdsL.loc.below h hbr hhi).at_ hxk
      subst e0
      have hc0 : wr.cell? ⟨b, off + k * 2, none⟩ = some (.int .i64 x.b) := by simpa using hcc 0 _ rfl
      have hc1 : wr.cell? ⟨b, off + k * 2 + 1, none⟩ = some (.int .i64 x.s) := by simpa using hcc 1 _ rfl
      have HX := Lib.hid (HF.out x (List.mem_of_getElem? hxk)); clear hxk hcc
      have hcall := isFnLk1 (#[.agg #[.int .i64 x.b, .int .i64 x.s]] ++ #[]) wr
      go_wp2_with fail
      refine (logOk1_no x HX.out wr).mono ?_
      rintro e w' ⟨rfl, b1⟩
      clear hcall hc0 hc1
      go_wp2_with fail
      go_roundw
      case rel => exact ⟨k + 1, by omega, by go_num, below_below hbr b1⟩
      case measure => simp [intOf]; omega
    · obtain rfl : k = xs.length := by omega
      go_wp2_with fail
      go_ret
      exact ⟨rfl, hbr⟩
theorem containsFunc_ok (xs : List Hd) (hok : ∀ x ∈ xs, okHd x) (v : Value) (w : World) (lo hi : Nat) (h : RHdsL w lo hi xs [v]) (hhi : hi ≤ w.heap.size) :
    Calls Tryz.prog 114 #[v, .func (.func 115) #[] #[]] w fun e w' => e = .returned (.bool false) ∧ Below w.heap.size w w' := by
  obtain ⟨A, c, rfl⟩ := RSl.form h
  have HF := Lib.hid hok; clear hok
  go_enter Tryz.func114, Tryz.ntmps114
  go_wp2_with fail
  refine (indexFunc_ok xs HF.out _ w lo hi h hhi).mono ?_
  rintro e w1 ⟨rfl, b1⟩
  go_wp2_with fail
  go_ret
  exact ⟨rfl, b1⟩
theorem implLogOk_any (xs : List Hd) (hok : okLog xs) (v : Value) (w : World) (lo hi : Nat) (h : RHdsL w lo hi xs [v]) (hhi : hi ≤ w.heap.size) :
    Calls Tryz.prog 63 #[v] w fun e w' => e = .returned (.bool true) ∧ Below w.heap.size w w' := by
  obtain ⟨A, c, rfl⟩ := RSl.form h
  obtain ⟨h9, hall⟩ := hok
  have t9 : decide ((xs.length : Int) ≤ 9) = true := decide_eq_true (by omega)
  have HF := Lib.hid hall; clear hall
  go_enter Tryz.func63, Tryz.ntmps63
  go_wp2_with fail
  refine (containsFunc_ok xs HF.out _ w lo hi h hhi).mono ?_
  rintro e w1 ⟨rfl, b1⟩
  go_wp2_with fail
  go_ret
  exact ⟨rfl, b1⟩
theorem linked_any (xs : List Hd) (A : Option Addr) (c lo hi : Nat) (w : World) (hc : RHdsL w lo hi xs [.slice A xs.length c]) (hhi : hi ≤ w.heap.size) :
    Calls Tryz.prog 95 #[.slice A xs.length c] w fun e W' => ∃ p, e = .returned (.pointer p) ∧ LkL w.heap.size W' p xs ∧ Below w.heap.size w W' :=
  callsIn_wide.1 (linked_in Fence.wide 6 trivial trivial trivial rfl (Nat.le_refl _) xs A c lo hi w hc hhi)
def forkAt : Nat → List Hd → List Hd → Int
  | _, [], _ => -1
  | _, _ :: _, [] => -1
  | i, x :: xs, y :: ys => if x.b = y.b ∧ x.s = y.s then forkAt (i + 1) xs ys else i
theorem LkL.cons {lo : Nat} {W : World} {p : Option Addr} {x : Hd} {xs : List Hd} (h : LkL lo W p (x :: xs)) : ∃ (b : Nat) (q : Option Addr), p = some ⟨b, 0, none⟩ ∧ lo ≤ b ∧ Blk W b 198 #[.int .i64 x.b, .int .i64 x.s, .pointer q] ∧ LkL lo W q xs := h
theorem LkL.nil_ {lo : Nat} {W : World} {p : Option Addr} (h : LkL lo W p []) : p = none := h
end Go.Proofs.YtpdkgpbfmpekgaaGreatDoor
