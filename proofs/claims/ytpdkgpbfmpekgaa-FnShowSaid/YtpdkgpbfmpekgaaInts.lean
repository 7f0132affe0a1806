


/- Contracts of the small functions on slices of ints: what each computes, whatever the world. -/
import Derived.Test.YtpdkgpbfmpekgaaBase
import Derived.Deep.OwnRows
namespace Go.Proofs.Ytpdkgpbfmpekgaa
open Go.RowKit


/-- What a search for the first element that p holds of gives. -/
def idxOf {α : Type} (p : α → Bool) (xs : List α) : Int := match xs.findIdx? p with | some i => (i : Int) | none => -1
theorem idx_hit {α : Type} {p : α → Bool} {xs : List α} {k : Nat} {x : α} (hk : xs[k]? = some x) (hx : p x = true) (hn : ∀ y ∈ xs.take k, p y = false) : idxOf p xs = (k : Int) := by
  have : xs.findIdx? p = some k := by
    induction xs generalizing k with
    | nil => simp at hk
    | cons a t ih =>
      cases k with
      | zero => simp at hk; subst hk; simp [List.findIdx?_cons, hx]
      | succ k =>
        have ha : p a = false := hn a (by simp)
        rw [List.findIdx?_cons, ha]
        have := ih (by simpa using hk) (fun y hy => hn y (by simp [hy]))
        simp [this]
  unfold idxOf; rw [this]
theorem idx_none {α : Type} {p : α → Bool} {xs : List α} (hn : ∀ y ∈ xs, p y = false) : idxOf p xs = -1 := by
  have : xs.findIdx? p = none := by rw [List.findIdx?_eq_none_iff]; exact hn
  unfold idxOf; rw [this]
theorem idx_any {α : Type} (p : α → Bool) (xs : List α) : decide (0 ≤ idxOf p xs) = xs.any p := by
  unfold idxOf
  cases h : xs.findIdx? p with
  | none =>
    rw [List.findIdx?_eq_none_iff] at h
    have : xs.any p = false := by rw [List.any_eq_false]; intro x hx; simp [h x hx]
    rw [this]; rfl
  | some i =>
    have hx := List.findIdx?_eq_some_iff_getElem.1 h
    obtain ⟨hi, hp, _⟩ := hx
    have : xs.any p = true := by rw [List.any_eq_true]; exact ⟨xs[i], List.getElem_mem _, hp⟩
    rw [this]; simp

/-- F is a function with a body. -/
def IsFn (F : FuncId) : Prop := ∀ (args : Array Value) (w : World), (callFunc F args).run Try.prog w = .ok (.enter F args) w
theorem isFn {f : FuncId} {fn : Func} {c : Code} (hf : Try.prog.funcs[f]? = some fn) (hname : (fn.name == "runtime.NumGoroutine") = false) (hb : fn.body = some c) : IsFn f := by
  intro args w
  have h1 : fn.name ≠ "runtime.NumGoroutine" := by simpa using hname
  simp [callFunc, hf, h1, hb]




theorem any_mem (n : Int) (xs : List Int) : (xs.any fun x => decide (x = n)) = decide (n ∈ xs) := by
  rw [Bool.eq_iff_iff]
  simp


/-- Some element of the one is an element of the other. -/
def meets (a b : List Int) : Bool := a.any fun x => decide (x ∈ b)



theorem ldInts_any (xs ys : List Int) (v1 v2 : Value) (w : World) (lo hi lo' hi' : Nat) (h1 : RSl RInt 1 w lo hi xs [v1]) (h2 : RSl RInt 1 w lo' hi' ys [v2]) :
    Calls Try.prog 46 #[v1, v2] w fun e w' => e = .returned (.bool (decide (xs = ys))) ∧ ∃ n, w' = w.drewN n := by
  obtain ⟨A, c, rfl⟩ := h1.form
  obtain ⟨A2, c2, rfl⟩ := h2.form
  obtain ⟨_, hc, hx⟩ := h1.len_
  unfold maxLen at hx
  by_cases hlen : xs.length = ys.length
  · have t1 : ((xs.length : Int) != ys.length) = false := by rw [bne_eq_false_iff_eq]; omega
    have HL := Lib.hid hlen; clear hlen
    go_enter Try.func46, Try.ntmps46
    go_wp2_with fail
    go_loopw [5] (fun i wr => ∃ k : Nat, k ≤ xs.length ∧ i = .int .i64 k ∧ xs.take k = ys.take k ∧ ∃ n, wr = w.drewN n) (fun i _ => xs.length - (intOf i).toNat)
    case atStart => exact ⟨0, Nat.zero_le _, rfl, rfl, 0, rfl⟩
    case round =>
      obtain ⟨k, hk, rfl, he, n, rfl⟩ := hrel
      have HE := Lib.hid he; clear he
      by_cases hlt : k < xs.length
      · obtain ⟨x, hxk⟩ := some_of_lt hlt
        obtain ⟨y, hyk⟩ := some_of_lt (l := ys) (k := k) (by have := HL.out; omega)
        obtain ⟨b, off, rfl, _, _, _, hcell⟩ := h1.ints_at hxk
        obtain ⟨b2, off2, rfl, _, _, _, hcell2⟩ := h2.ints_at hyk
        have hly : (k : Int) < (ys.length : Int) := by have := HL.out; omega
        have HX := Lib.hid hxk; have HY := Lib.hid hyk
        clear hxk hyk
        by_cases hxy : x = y
        · have t2 : (x != y) = false := by rw [bne_eq_false_iff_eq]; exact hxy
          have HXY := Lib.hid hxy; clear hxy
          go_wp2_with fail
          go_quiet (fail)
          go_wp2_with fail
          go_roundw
          case rel => exact ⟨k + 1, by omega, by go_num, by rw [take_succ HX.out, take_succ HY.out, HE.out, HXY.out], _, rfl⟩
          case measure => simp [intOf]; omega
        · have t2 : (x != y) = true := by rw [bne_iff_ne]; exact hxy
          have HXY := Lib.hid hxy; clear hxy
          go_wp2_with fail
          go_quiet (fail)
          go_wp2_with fail
          go_ret
          exact ⟨ret_bool (by symm; rw [decide_eq_false_iff_not]; rintro rfl; exact HXY.out (Option.some.inj (HX.out.symm.trans HY.out))), by first | exact ⟨_, rfl⟩ | exact ⟨_, World.drewN_drewN _ _ _⟩⟩
      · obtain rfl : k = xs.length := by omega
        go_wp2_with fail
        go_ret
        exact ⟨ret_bool (by symm; rw [decide_eq_true_iff]; have := HE.out; rw [List.take_length, List.take_of_length_le (by have := HL.out; omega)] at this; exact this), n, rfl⟩
  · have t1 : ((xs.length : Int) != ys.length) = true := by rw [bne_iff_ne]; omega
    have HL := Lib.hid hlen; clear hlen
    go_enter Try.func46, Try.ntmps46
    go_wp2_with fail
    go_ret
    exact ⟨ret_bool (by symm; simp; intro e; exact HL.out (by rw [e])), 0, rfl⟩
end Go.Proofs.Ytpdkgpbfmpekgaa
