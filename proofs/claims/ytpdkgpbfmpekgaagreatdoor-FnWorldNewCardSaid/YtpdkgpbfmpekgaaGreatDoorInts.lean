


/- Contracts of the small functions on slices of ints: what each computes, whatever the world. -/
import Derived.Test.YtpdkgpbfmpekgaaGreatDoorBase
import Derived.Deep.OwnRows
namespace Go.Proofs.YtpdkgpbfmpekgaaGreatDoor
open Go.RowKit

theorem l3Has_any (xs : List Int) (n : Int) (A : Option Addr) (m c : Nat) (w : World) (lo hi : Nat) (h : RSl RInt 1 w lo hi xs [.slice A m c]) :
    Calls Tryz.prog 65 #[.slice A m c, .int .i64 n] w fun e w' => e = .returned (.bool (decide (n ∈ xs))) ∧ w = w' := by
  obtain ⟨rfl, hc, hx⟩ := h.len_
  unfold maxLen at hx
  go_enter Tryz.func65, Tryz.ntmps65
  go_wp2
  go_loop [5] (fun i => ∃ k : Nat, k ≤ xs.length ∧ i = .int .i64 k ∧ n ∉ xs.take k) (fun i => xs.length - (intOf i).toNat)
  case atStart => exact ⟨0, Nat.zero_le _, rfl, by simp⟩
  case round =>
    obtain ⟨k, hk, rfl, hn⟩ := hrel
    have HN := Lib.hid hn; clear hn
    by_cases hlt : k < xs.length
    · obtain ⟨x, hxk⟩ := some_of_lt hlt
      obtain ⟨b, off, rfl, _, _, _, hcell⟩ := h.ints_at hxk
      have HX := Lib.hid hxk; clear hxk
      by_cases he : x = n
      · subst he
        go_wp2
        go_ret
        exact ⟨ret_bool (by simp [List.mem_of_getElem? HX.out]), rfl⟩
      · go_wp2
        go_round
        case rel => exact ⟨k + 1, by omega, by go_num, by rw [take_succ HX.out]; simp [HN.out, Ne.symm he]⟩
        case measure => simp [intOf]; omega
    · obtain rfl : k = xs.length := by omega
      go_wp2
      go_ret
      exact ⟨ret_bool (by have := HN.out; rw [List.take_length] at this; simp [this]), rfl⟩
theorem ldIn_any (xs : List Int) (n : Int) (A : Option Addr) (m c : Nat) (w : World) (lo hi : Nat) (h : RSl RInt 1 w lo hi xs [.slice A m c]) :
    Calls Tryz.prog 19 #[.slice A m c, .int .i64 n] w fun e w' => e = .returned (.bool (decide (n ∈ xs))) ∧ w = w' := by
  obtain ⟨rfl, hc, hx⟩ := h.len_
  unfold maxLen at hx
  go_enter Tryz.func19, Tryz.ntmps19
  go_wp2
  go_loop [5] (fun i => ∃ k : Nat, k ≤ xs.length ∧ i = .int .i64 k ∧ n ∉ xs.take k) (fun i => xs.length - (intOf i).toNat)
  case atStart => exact ⟨0, Nat.zero_le _, rfl, by simp⟩
  case round =>
    obtain ⟨k, hk, rfl, hn⟩ := hrel
    have HN := Lib.hid hn; clear hn
    by_cases hlt : k < xs.length
    · obtain ⟨x, hxk⟩ := some_of_lt hlt
      obtain ⟨b, off, rfl, _, _, _, hcell⟩ := h.ints_at hxk
      have HX := Lib.hid hxk; clear hxk
      by_cases he : x = n
      · subst he
        go_wp2
        go_ret
        exact ⟨ret_bool (by simp [List.mem_of_getElem? HX.out]), rfl⟩
      · go_wp2
        go_round
        case rel => exact ⟨k + 1, by omega, by go_num, by rw [take_succ HX.out]; simp [HN.out, Ne.symm he]⟩
        case measure => simp [intOf]; omega
    · obtain rfl : k = xs.length := by omega
      go_wp2
      go_ret
      exact ⟨ret_bool (by have := HN.out; rw [List.take_length] at this; simp [this]), rfl⟩

/-- What a search for the first element that p holds of gives. -/
def idxOf {α : Type} (p : α → Bool) (xs : List α) : Int := match xs.findIdx? p with | some i => (i : Int) | none => -1
theorem idx_hit {α : Type} {p : α → Bool} {xs : List α} {k : Nat} {x : α} (hk : xs[k]? = some x) (hx : p x = true) (hn : ∀ y ∈ xs.take k, p y = false) : idxOf p xs = (k : Int) := by
  have : xs.findIdx? p = some k := by
    induction xs generalizing k with
    | nil => simp at hk
    | cons a t ih =>
      cases k with
      | zero => simp at hk; subst hk; simp [List.findIdx?_cons, hx]
      | succ k =>
        have ha : p a = false := hn a (by simp)
        rw [List.findIdx?_cons, ha]
        have := ih (by simpa using hk) (fun y hy => hn y (by simp [hy]))
        simp [this]
  unfold idxOf; rw [this]
theorem idx_none {α : Type} {p : α → Bool} {xs : List α} (hn : ∀ y ∈ xs, p y = false) : idxOf p xs = -1 := by
  have : xs.findIdx? p = none := by rw [List.findIdx?_eq_none_iff]; exact hn
  unfold idxOf; rw [this]
theorem idx_any {α : Type} (p : α → Bool) (xs : List α) : decide (0 ≤ idxOf p xs) = xs.any p := by
  unfold idxOf
  cases h : xs.findIdx? p with
  | none =>
    rw [List.findIdx?_eq_none_iff] at h
    have : xs.any p = false := by rw [List.any_eq_false]; intro x hx; simp [h x hx]
    rw [this]; rfl
  | some i =>
    have hx := List.findIdx?_eq_some_iff_getElem.1 h
    obtain ⟨hi, hp, _⟩ := hx
    have : xs.any p = true := by rw [List.any_eq_true]; exact ⟨xs[i], List.getElem_mem _, hp⟩
    rw [this]; simp

/-- F is a function with a body. -/
def IsFn (F : FuncId) : Prop := ∀ (args : Array Value) (w : World), (callFunc F args).run Tryz.prog w = .ok (.enter F args) w
theorem isFn {f : FuncId} {fn : Func} {c : Code} (hf : Tryz.prog.funcs[f]? = some fn) (hname : (fn.name == "runtime.NumGoroutine") = false) (hb : fn.body = some c) : IsFn f := by
  intro args w
  have h1 : fn.name ≠ "runtime.NumGoroutine" := by simpa using hname
  simp [callFunc, hf, h1, hb]

set_option maxRecDepth 100000 in
theorem indexFunc_int (F : Nat) (caps : Array Value) (p : Int → Bool) (xs : List Int) (A : Option Addr) (m c : Nat) (w : World) (lo hi : Nat) (h : RSl RInt 1 w lo hi xs [.slice A m c]) (hF : IsFn F)
    (hf : ∀ x ∈ xs, Calls Tryz.prog F (#[.int .i64 x] ++ caps) w fun e w' => e = .returned (.bool (p x)) ∧ w = w') :
    Calls Tryz.prog 124 #[.slice A m c, .func (.func F) #[] caps] w fun e w' => e = .returned (.int .i64 (idxOf p xs)) ∧ w = w' := by
  obtain ⟨rfl, hc, hx⟩ := h.len_
  unfold maxLen at hx
  have HF := Lib.hid hf; clear hf
  go_enter Tryz.func124, Tryz.ntmps124
  go_wp2_with fail
  go_loop [8] (fun i => ∃ k : Nat, k ≤ xs.length ∧ i = .int .i64 k ∧ ∀ y ∈ xs.take k, p y = false) (fun i => xs.length - (intOf i).toNat)
  case atStart => exact ⟨0, Nat.zero_le _, rfl, by simp⟩
  case round =>
    obtain ⟨k, hk, rfl, hn⟩ := hrel
    have HN := Lib.hid hn; clear hn
    by_cases hlt : k < xs.length
    · obtain ⟨x, hxk⟩ := some_of_lt hlt
      obtain ⟨b, off, rfl, _, _, _, hcell⟩ := h.ints_at hxk
      have HX := Lib.hid hxk; clear hxk
      have hcall := hF (#[.int .i64 x] ++ caps) w
      cases hp : p x
      · have HP := Lib.hid hp; clear hp
        go_wp2_with fail
        refine (HF.out x (List.mem_of_getElem? HX.out)).mono ?_
        rintro e w' ⟨rfl, rfl⟩
        rw [HP.out]
        go_wp2_with fail
        go_round
        case rel =>
          refine ⟨k + 1, by omega, by go_num, fun y hy => ?_⟩
          rw [take_succ HX.out, List.mem_append] at hy
          rcases hy with hy | hy
          · exact HN.out y hy
          · rw [List.mem_singleton.1 hy]; exact HP.out
        case measure => simp [intOf]; omega
      · have HP := Lib.hid hp; clear hp
        go_wp2_with fail
        refine (HF.out x (List.mem_of_getElem? HX.out)).mono ?_
        rintro e w' ⟨rfl, rfl⟩
        rw [HP.out]
        go_wp2_with fail
        go_ret
        exact ⟨ret_int (idx_hit HX.out HP.out HN.out).symm, rfl⟩
    · obtain rfl : k = xs.length := by omega
      go_wp2_with fail
      go_ret
      exact ⟨ret_int (by have := HN.out; rw [List.take_length] at this; exact (idx_none this).symm), rfl⟩

theorem containsFunc_int (F : Nat) (caps : Array Value) (p : Int → Bool) (xs : List Int) (A : Option Addr) (m c : Nat) (w : World) (lo hi : Nat) (h : RSl RInt 1 w lo hi xs [.slice A m c]) (hF : IsFn F)
    (hf : ∀ x ∈ xs, Calls Tryz.prog F (#[.int .i64 x] ++ caps) w fun e w' => e = .returned (.bool (p x)) ∧ w = w') :
    Calls Tryz.prog 76 #[.slice A m c, .func (.func F) #[] caps] w fun e w' => e = .returned (.bool (xs.any p)) ∧ w = w' := by
  have HF := Lib.hid hf; clear hf
  have HI := Lib.hid (idx_any p xs)
  go_enter Tryz.func76, Tryz.ntmps76
  go_wp2_with fail
  refine (indexFunc_int F caps p xs _ _ _ _ _ _ h hF HF.out).mono ?_
  rintro e w' ⟨rfl, rfl⟩
  go_wp2_with fail
  go_ret
  exact ⟨ret_bool HI.out, rfl⟩


theorem any_mem (n : Int) (xs : List Int) : (xs.any fun x => decide (x = n)) = decide (n ∈ xs) := by
  rw [Bool.eq_iff_iff]
  simp


/-- Some element of the one is an element of the other. -/
def meets (a b : List Int) : Bool := a.any fun x => decide (x ∈ b)


theorem info_int : (Tryz.prog.info? 3).map (fun i => (i.zero, i.size, i.bytes)) = some (some (.int .i64 0), 1, 8) := by kernel_rfl
theorem toIntS_any (xs : List Int) (v : Value) (w : World) (lo hi : Nat) (h : RSl RInt 1 w lo hi xs [v]) (hhi : hi ≤ w.heap.size) (hl : xs.length ≤ 1048576) :
    Calls Tryz.prog 74 #[v] w (NewSl RInt 1 w xs) := by
  obtain ⟨A, c, rfl⟩ := h.form
  have h64 := Lib.hid h.in64
  have hmk := Go.run_make_row' (P := Tryz.prog) 31 3 (.int .i64 0) 8 Tryz.underlying31 info_int rfl .i64 .i64 xs.length (by omega) (by omega) w
  go_enter Tryz.func74, Tryz.ntmps74
  go_wp2_with fail
  go_loopw [4] (fun i wr => ∃ k : Nat, k ≤ xs.length ∧ i = .int .i64 k ∧ Pre wr w.heap.size 3 xs.length ((xs.take k).map (Value.int .i64)) ∧ Below w.heap.size w wr) (fun i _ => xs.length - (intOf i).toNat)
  case atStart =>
    refine ⟨0, Nat.zero_le _, rfl, ?_, (Below.refl _ _).alloc (Nat.le_refl _) _⟩
    have := Pre.new w 3 (madeCells #[.int .i64 0] xs.length)
    rw [size_madeCells] at this
    exact this
  case round =>
    obtain ⟨k, hk, rfl, hp, hb⟩ := hrel
    by_cases hlt : k < xs.length
    · obtain ⟨x, hxk⟩ := some_of_lt hlt
      obtain ⟨b, off, rfl, _, hbb, _, hcell0⟩ := h.ints_at hxk
      have hcell : wr.cell? ⟨b, off + k, none⟩ = some (.int .i64 x) := (hb.cell (p := ⟨b, off + k, none⟩) (by show b < _; omega)).trans hcell0
      obtain ⟨u, hold⟩ := hp.there hlt
      have hfz := hp.frozen k
      have hpush := hp.push (.int .i64 x) (by simp; omega)
      have hlen : ((xs.take k).map (Value.int .i64)).length = k := by simp; omega
      rw [hlen, ← List.map_singleton, ← List.map_append, ← take_succ hxk] at hpush
      have HX := Lib.hid hxk; clear hxk
      have HL := Lib.hid hlen; clear hlen hcell0
      go_wp2_with fail
      go_roundw
      case rel => exact ⟨k + 1, by omega, by go_num, hpush, hb.setCell (Nat.le_refl _) _⟩
      case measure => simp [intOf]; omega
    · obtain rfl : k = xs.length := by omega
      rw [List.take_length] at hp
      go_wp2_with fail
      go_ret
      exact ⟨_, rfl, hp.ints h64.out (Nat.le_refl _) hp.lt (Nat.le_refl _) (by unfold maxLen; omega), hb⟩

theorem eqIntS_any (xs ys : List Int) (v1 v2 : Value) (w : World) (lo hi lo' hi' : Nat) (h1 : RSl RInt 1 w lo hi xs [v1]) (h2 : RSl RInt 1 w lo' hi' ys [v2]) :
    Calls Tryz.prog 81 #[v1, v2] w fun e w' => e = .returned (.bool (decide (xs = ys))) ∧ ∃ n, w' = w.drewN n := by
  obtain ⟨A, c, rfl⟩ := h1.form
  obtain ⟨A2, c2, rfl⟩ := h2.form
  obtain ⟨_, hc, hx⟩ := h1.len_
  unfold maxLen at hx
  by_cases hlen : xs.length = ys.length
  · have t1 : ((xs.length : Int) != ys.length) = false := by rw [bne_eq_false_iff_eq]; omega
    have HL := Lib.hid hlen; clear hlen
    go_enter Tryz.func81, Tryz.ntmps81
    go_wp2_with fail
    go_loopw [5] (fun i wr => ∃ k : Nat, k ≤ xs.length ∧ i = .int .i64 k ∧ xs.take k = ys.take k ∧ ∃ n, wr = w.drewN n) (fun i _ => xs.length - (intOf i).toNat)
    case atStart => exact ⟨0, Nat.zero_le _, rfl, rfl, 0, rfl⟩
    case round =>
      obtain ⟨k, hk, rfl, he, n, rfl⟩ := hrel
      have HE := Lib.hid he; clear he
      by_cases hlt : k < xs.length
      · obtain ⟨x, hxk⟩ := some_of_lt hlt
        obtain ⟨y, hyk⟩ := some_of_lt (l := ys) (k := k) (by have := HL.out; omega)
        obtain ⟨b, off, rfl, _, _, _, hcell⟩ := h1.ints_at hxk
        obtain ⟨b2, off2, rfl, _, _, _, hcell2⟩ := h2.ints_at hyk
        have hly : (k : Int) < (ys.length : Int) := by have := HL.out; omega
        have HX := Lib.hid hxk; have HY := Lib.hid hyk
        clear hxk hyk
        by_cases hxy : x = y
        · have t2 : (x != y) = false := by rw [bne_eq_false_iff_eq]; exact hxy
          have HXY := Lib.hid hxy; clear hxy
          go_wp2_with fail
          go_quiet (fail)
          go_wp2_with fail
          go_roundw
          case rel => exact ⟨k + 1, by omega, by go_num, by rw [take_succ HX.out, take_succ HY.out, HE.out, HXY.out], _, rfl⟩
          case measure => simp [intOf]; omega
        · have t2 : (x != y) = true := by rw [bne_iff_ne]; exact hxy
          have HXY := Lib.hid hxy; clear hxy
          go_wp2_with fail
          go_quiet (fail)
          go_wp2_with fail
          go_ret
          exact ⟨ret_bool (by symm; rw [decide_eq_false_iff_not]; rintro rfl; exact HXY.out (Option.some.inj (HX.out.symm.trans HY.out))), by first | exact ⟨_, rfl⟩ | exact ⟨_, World.drewN_drewN _ _ _⟩⟩
      · obtain rfl : k = xs.length := by omega
        go_wp2_with fail
        go_ret
        exact ⟨ret_bool (by symm; rw [decide_eq_true_iff]; have := HE.out; rw [List.take_length, List.take_of_length_le (by have := HL.out; omega)] at this; exact this), n, rfl⟩
  · have t1 : ((xs.length : Int) != ys.length) = true := by rw [bne_iff_ne]; omega
    have HL := Lib.hid hlen; clear hlen
    go_enter Tryz.func81, Tryz.ntmps81
    go_wp2_with fail
    go_ret
    exact ⟨ret_bool (by symm; simp; intro e; exact HL.out (by rw [e])), 0, rfl⟩
theorem ldInts_any (xs ys : List Int) (v1 v2 : Value) (w : World) (lo hi lo' hi' : Nat) (h1 : RSl RInt 1 w lo hi xs [v1]) (h2 : RSl RInt 1 w lo' hi' ys [v2]) :
    Calls Tryz.prog 41 #[v1, v2] w fun e w' => e = .returned (.bool (decide (xs = ys))) ∧ ∃ n, w' = w.drewN n := by
  obtain ⟨A, c, rfl⟩ := h1.form
  obtain ⟨A2, c2, rfl⟩ := h2.form
  obtain ⟨_, hc, hx⟩ := h1.len_
  unfold maxLen at hx
  by_cases hlen : xs.length = ys.length
  · have t1 : ((xs.length : Int) != ys.length) = false := by rw [bne_eq_false_iff_eq]; omega
    have HL := Lib.hid hlen; clear hlen
    go_enter Tryz.func41, Tryz.ntmps41
    go_wp2_with fail
    go_loopw [5] (fun i wr => ∃ k : Nat, k ≤ xs.length ∧ i = .int .i64 k ∧ xs.take k = ys.take k ∧ ∃ n, wr = w.drewN n) (fun i _ => xs.length - (intOf i).toNat)
    case atStart => exact ⟨0, Nat.zero_le _, rfl, rfl, 0, rfl⟩
    case round =>
      obtain ⟨k, hk, rfl, he, n, rfl⟩ := hrel
      have HE := Lib.hid he; clear he
      by_cases hlt : k < xs.length
      · obtain ⟨x, hxk⟩ := some_of_lt hlt
        obtain ⟨y, hyk⟩ := some_of_lt (l := ys) (k := k) (by have := HL.out; omega)
        obtain ⟨b, off, rfl, _, _, _, hcell⟩ := h1.ints_at hxk
        obtain ⟨b2, off2, rfl, _, _, _, hcell2⟩ := h2.ints_at hyk
        have hly : (k : Int) < (ys.length : Int) := by have := HL.out; omega
        have HX := Lib.hid hxk; have HY := Lib.hid hyk
        clear hxk hyk
        by_cases hxy : x = y
        · have t2 : (x != y) = false := by rw [bne_eq_false_iff_eq]; exact hxy
          have HXY := Lib.hid hxy; clear hxy
          go_wp2_with fail
          go_quiet (fail)
          go_wp2_with fail
          go_roundw
          case rel => exact ⟨k + 1, by omega, by go_num, by rw [take_succ HX.out, take_succ HY.out, HE.out, HXY.out], _, rfl⟩
          case measure => simp [intOf]; omega
        · have t2 : (x != y) = true := by rw [bne_iff_ne]; exact hxy
          have HXY := Lib.hid hxy; clear hxy
          go_wp2_with fail
          go_quiet (fail)
          go_wp2_with fail
          go_ret
          exact ⟨ret_bool (by symm; rw [decide_eq_false_iff_not]; rintro rfl; exact HXY.out (Option.some.inj (HX.out.symm.trans HY.out))), by first | exact ⟨_, rfl⟩ | exact ⟨_, World.drewN_drewN _ _ _⟩⟩
      · obtain rfl : k = xs.length := by omega
        go_wp2_with fail
        go_ret
        exact ⟨ret_bool (by symm; rw [decide_eq_true_iff]; have := HE.out; rw [List.take_length, List.take_of_length_le (by have := HL.out; omega)] at this; exact this), n, rfl⟩
  · have t1 : ((xs.length : Int) != ys.length) = true := by rw [bne_iff_ne]; omega
    have HL := Lib.hid hlen; clear hlen
    go_enter Tryz.func41, Tryz.ntmps41
    go_wp2_with fail
    go_ret
    exact ⟨ret_bool (by symm; simp; intro e; exact HL.out (by rw [e])), 0, rfl⟩
end Go.Proofs.YtpdkgpbfmpekgaaGreatDoor
