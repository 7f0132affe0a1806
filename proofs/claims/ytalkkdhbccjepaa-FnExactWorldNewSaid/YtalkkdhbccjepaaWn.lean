


/- Worlds without anything: compared, marked, held. -/
import Derived.Test.YtalkkdhbccjepaaEMemory
import Derived.Test.YtalkkdhbccjepaaMkI
import Derived.Test.YtalkkdhbccjepaaInts
namespace Go.Proofs.Ytalkkdhbccjepaa
open Go.RowKit

theorem eqPackS_em (A B : Option Addr) (a b : Nat) (w : World) : Calls Try.prog 56 #[.slice A 0 a, .slice B 0 b] w fun e w' => e = .returned (.bool true) ∧ w = w' := by
  go_enter Try.func56, Try.ntmps56
  go_wp2_with fail
  go_loop [5] (fun i => i = .int .i64 0) (fun _ => 0)
  case atStart => rfl
  case round =>
    obtain rfl := hrel
    go_wp2_with fail
    go_ret
    exact ⟨rfl, rfl⟩
theorem eqSnapS_em (A B : Option Addr) (a b : Nat) (w : World) : Calls Try.prog 57 #[.slice A 0 a, .slice B 0 b] w fun e w' => e = .returned (.bool true) ∧ w = w' := by
  go_enter Try.func57, Try.ntmps57
  go_wp2_with fail
  go_loop [5] (fun i => i = .int .i64 0) (fun _ => 0)
  case atStart => rfl
  case round =>
    obtain rfl := hrel
    go_wp2_with fail
    go_ret
    exact ⟨rfl, rfl⟩
theorem eqHeadS_em (A B : Option Addr) (a b : Nat) (w : World) : Calls Try.prog 58 #[.slice A 0 a, .slice B 0 b] w fun e w' => e = .returned (.bool true) ∧ w = w' := by
  go_enter Try.func58, Try.ntmps58
  go_wp2_with fail
  go_loop [5] (fun i => i = .int .i64 0) (fun _ => 0)
  case atStart => rfl
  case round =>
    obtain rfl := hrel
    go_wp2_with fail
    go_ret
    exact ⟨rfl, rfl⟩
theorem markPackS_em (A : Option Addr) (a : Nat) (k : Int) (w : World) : Calls Try.prog 59 #[.slice A 0 a, .int .i64 k] w fun e w' => e = .returned (.int .i64 k) ∧ w = w' := by
  go_enter Try.func59, Try.ntmps59
  go_wp2_with fail
  go_loop [1, 5] (fun q i => q = .int .i64 k ∧ i = .int .i64 0) (fun _ _ => 0)
  case atStart => exact ⟨rfl, rfl⟩
  case round =>
    obtain ⟨rfl, rfl⟩ := hrel
    go_wp2_with fail
    go_ret
    exact ⟨rfl, rfl⟩
theorem markSnapS_em (A : Option Addr) (a : Nat) (k : Int) (w : World) : Calls Try.prog 60 #[.slice A 0 a, .int .i64 k] w fun e w' => e = .returned (.int .i64 k) ∧ w = w' := by
  go_enter Try.func60, Try.ntmps60
  go_wp2_with fail
  go_loop [1, 5] (fun q i => q = .int .i64 k ∧ i = .int .i64 0) (fun _ _ => 0)
  case atStart => exact ⟨rfl, rfl⟩
  case round =>
    obtain ⟨rfl, rfl⟩ := hrel
    go_wp2_with fail
    go_ret
    exact ⟨rfl, rfl⟩
theorem markHeadS_em (A : Option Addr) (a : Nat) (k : Int) (w : World) : Calls Try.prog 61 #[.slice A 0 a, .int .i64 k] w fun e w' => e = .returned (.int .i64 k) ∧ w = w' := by
  go_enter Try.func61, Try.ntmps61
  go_wp2_with fail
  go_loop [1, 5] (fun q i => q = .int .i64 k ∧ i = .int .i64 0) (fun _ _ => 0)
  case atStart => exact ⟨rfl, rfl⟩
  case round =>
    obtain ⟨rfl, rfl⟩ := hrel
    go_wp2_with fail
    go_ret
    exact ⟨rfl, rfl⟩
theorem heldPackS_em (A : Option Addr) (a : Nat) (k : Int) (w : World) : Calls Try.prog 62 #[.slice A 0 a, .int .i64 k] w fun e w' => e = .returned (.int .i64 k) ∧ w = w' := by
  go_enter Try.func62, Try.ntmps62
  go_wp2_with fail
  go_loop [1, 5] (fun q i => q = .int .i64 k ∧ i = .int .i64 0) (fun _ _ => 0)
  case atStart => exact ⟨rfl, rfl⟩
  case round =>
    obtain ⟨rfl, rfl⟩ := hrel
    go_wp2_with fail
    go_ret
    exact ⟨rfl, rfl⟩
theorem heldSnapS_em (A : Option Addr) (a : Nat) (k : Int) (w : World) : Calls Try.prog 63 #[.slice A 0 a, .int .i64 k] w fun e w' => e = .returned (.int .i64 k) ∧ w = w' := by
  go_enter Try.func63, Try.ntmps63
  go_wp2_with fail
  go_loop [1, 5] (fun q i => q = .int .i64 k ∧ i = .int .i64 0) (fun _ _ => 0)
  case atStart => exact ⟨rfl, rfl⟩
  case round =>
    obtain ⟨rfl, rfl⟩ := hrel
    go_wp2_with fail
    go_ret
    exact ⟨rfl, rfl⟩
theorem heldHeadS_em (A : Option Addr) (a : Nat) (k : Int) (w : World) : Calls Try.prog 64 #[.slice A 0 a, .int .i64 k] w fun e w' => e = .returned (.int .i64 k) ∧ w = w' := by
  go_enter Try.func64, Try.ntmps64
  go_wp2_with fail
  go_loop [1, 5] (fun q i => q = .int .i64 k ∧ i = .int .i64 0) (fun _ _ => 0)
  case atStart => exact ⟨rfl, rfl⟩
  case round =>
    obtain ⟨rfl, rfl⟩ := hrel
    go_wp2_with fail
    go_ret
    exact ⟨rfl, rfl⟩
/-- A store without anything. -/
def ESt0 (v : Value) : Prop := ∃ A a B b C c, v = .agg #[.slice A 0 a, .slice B 0 b, .slice C 0 c]
def ESw0 (v : Value) : Prop := ∃ P p Q q R r A a B b, v = .agg #[.slice P 0 p, .slice Q 0 q, .slice R 0 r, .slice A 0 a, .slice B 0 b]
theorem below2 (w : World) (o p : Obj) : Below w.heap.size w ((w.alloc o).alloc p) := below_below (below_alloc w o) (below_alloc _ p)
theorem eqStore_em (v v' : Value) (h : ESt0 v) (h' : ESt0 v') (w : World) : Calls Try.prog 23 #[v, v'] w fun e w' => e = .returned (.bool true) ∧ Below w.heap.size w w' := by
  obtain ⟨A, a, B, b, C, c, rfl⟩ := h
  obtain ⟨A', a', B', b', C', c', rfl⟩ := h'
  go_enter Try.func23, Try.ntmps23
  go_wp2_with fail
  refine (eqPackS_em A A' a a' _).mono ?_
  rintro e w' ⟨rfl, rfl⟩
  go_wp2_with fail
  refine (eqSnapS_em B B' b b' _).mono ?_
  rintro e w' ⟨rfl, rfl⟩
  go_wp2_with fail
  refine (eqHeadS_em C C' c c' _).mono ?_
  rintro e w' ⟨rfl, rfl⟩
  go_wp2_with fail
  go_ret
  exact ⟨rfl, below2 _ _ _⟩
theorem markStore_em (v : Value) (h : ESt0 v) (k : Int) (w : World) : Calls Try.prog 24 #[v, .int .i64 k] w fun e w' => e = .returned (.int .i64 k) ∧ Below w.heap.size w w' := by
  obtain ⟨A, a, B, b, C, c, rfl⟩ := h
  go_enter Try.func24, Try.ntmps24
  go_wp2_with fail
  refine (markPackS_em A a k _).mono ?_
  rintro e w' ⟨rfl, rfl⟩
  go_wp2_with fail
  refine (markSnapS_em B b k _).mono ?_
  rintro e w' ⟨rfl, rfl⟩
  go_wp2_with fail
  refine (markHeadS_em C c k _).mono ?_
  rintro e w' ⟨rfl, rfl⟩
  go_wp2_with fail
  go_ret
  exact ⟨rfl, below_alloc _ _⟩
theorem heldStore_em (v : Value) (h : ESt0 v) (k : Int) (hk : 0 ≤ k) (w : World) : Calls Try.prog 25 #[v, .int .i64 k] w fun e w' => e = .returned (.int .i64 k) ∧ Below w.heap.size w w' := by
  obtain ⟨A, a, B, b, C, c, rfl⟩ := h
  have u : decide (k < 0) = false := decide_eq_false (by omega)
  go_enter Try.func25, Try.ntmps25
  go_wp2_with fail
  refine (heldPackS_em A a k _).mono ?_
  rintro e w' ⟨rfl, rfl⟩
  go_wp2_with fail
  refine (heldSnapS_em B b k _).mono ?_
  rintro e w' ⟨rfl, rfl⟩
  go_wp2_with fail
  refine (heldHeadS_em C c k _).mono ?_
  rintro e w' ⟨rfl, rfl⟩
  go_wp2_with fail
  go_ret
  exact ⟨rfl, below_alloc _ _⟩
theorem sl_em {w : World} {lo hi : Nat} (A : Option Addr) {c : Nat} (hc : c ≤ maxLen) : RSl RInt 1 w lo hi [] [.slice A 0 c] := ⟨A, c, rfl, Nat.zero_le _, hc, fun h => absurd h (by simp)⟩
theorem eqIntS_em (A B : Option Addr) (a b : Nat) (w : World) : Calls Try.prog 31 #[.slice A 0 a, .slice B 0 b] w fun e w' => e = .returned (.bool true) ∧ w = w' := by
  go_enter Try.func31, Try.ntmps31
  go_wp2_with fail
  go_loop [5] (fun i => i = .int .i64 0) (fun _ => 0)
  case atStart => rfl
  case round =>
    obtain rfl := hrel
    go_wp2_with fail
    go_ret
    exact ⟨rfl, rfl⟩
theorem markIntS_em (A : Option Addr) (a : Nat) (k : Int) (w : World) : Calls Try.prog 34 #[.slice A 0 a, .int .i64 k] w fun e w' => e = .returned (.int .i64 k) ∧ w = w' := by
  go_enter Try.func34, Try.ntmps34
  go_wp2_with fail
  go_loop [1, 5] (fun q i => q = .int .i64 k ∧ i = .int .i64 0) (fun _ _ => 0)
  case atStart => exact ⟨rfl, rfl⟩
  case round =>
    obtain ⟨rfl, rfl⟩ := hrel
    go_wp2_with fail
    go_ret
    exact ⟨rfl, rfl⟩
theorem heldIntS_em (A : Option Addr) (a : Nat) (k : Int) (w : World) : Calls Try.prog 37 #[.slice A 0 a, .int .i64 k] w fun e w' => e = .returned (.int .i64 k) ∧ w = w' := by
  go_enter Try.func37, Try.ntmps37
  go_wp2_with fail
  go_loop [1, 5] (fun q i => q = .int .i64 k ∧ i = .int .i64 0) (fun _ _ => 0)
  case atStart => exact ⟨rfl, rfl⟩
  case round =>
    obtain ⟨rfl, rfl⟩ := hrel
    go_wp2_with fail
    go_ret
    exact ⟨rfl, rfl⟩
theorem eqSweep_em (v v' : Value) (h : ESw0 v) (h' : ESw0 v') (w : World) : Calls Try.prog 28 #[v, v'] w fun e w' => e = .returned (.bool true) ∧ Below w.heap.size w w' := by
  obtain ⟨P, p, Q, q, R, r, A, a, B, b, rfl⟩ := h
  obtain ⟨P', p', Q', q', R', r', A', a', B', b', rfl⟩ := h'
  go_enter Try.func28, Try.ntmps28
  go_wp2_with fail
  have hbw0 : Below w.heap.size w ((w.alloc (.cells #[.slice P 0 p, .slice Q 0 q, .slice R 0 r, .slice A 0 a, .slice B 0 b] 29)).alloc (.cells #[.slice P' 0 p', .slice Q' 0 q', .slice R' 0 r', .slice A' 0 a', .slice B' 0 b'] 29)) := below_alloc' (below_alloc _ _) _
  have k0 : Blk ((w.alloc (.cells #[.slice P 0 p, .slice Q 0 q, .slice R 0 r, .slice A 0 a, .slice B 0 b] 29)).alloc (.cells #[.slice P' 0 p', .slice Q' 0 q', .slice R' 0 r', .slice A' 0 a', .slice B' 0 b'] 29)) (w.heap.size) 29 #[.slice P 0 p, .slice Q 0 q, .slice R 0 r, .slice A 0 a, .slice B 0 b] := by
    have hk := blk_alloc (Blk.new w 29 #[.slice P 0 p, .slice Q 0 q, .slice R 0 r, .slice A 0 a, .slice B 0 b]) (.cells #[.slice P' 0 p', .slice Q' 0 q', .slice R' 0 r', .slice A' 0 a', .slice B' 0 b'] 29)
    exact hk
  have k1 : Blk ((w.alloc (.cells #[.slice P 0 p, .slice Q 0 q, .slice R 0 r, .slice A 0 a, .slice B 0 b] 29)).alloc (.cells #[.slice P' 0 p', .slice Q' 0 q', .slice R' 0 r', .slice A' 0 a', .slice B' 0 b'] 29)) (w.heap.size + 1) 29 #[.slice P' 0 p', .slice Q' 0 q', .slice R' 0 r', .slice A' 0 a', .slice B' 0 b'] := by
    have hk := Blk.new (w.alloc (.cells #[.slice P 0 p, .slice Q 0 q, .slice R 0 r, .slice A 0 a, .slice B 0 b] 29)) 29 #[.slice P' 0 p', .slice Q' 0 q', .slice R' 0 r', .slice A' 0 a', .slice B' 0 b']
    simp only [World.size_alloc] at hk
    exact hk
  have hsw0 : w.heap.size + 2 ≤ ((w.alloc (.cells #[.slice P 0 p, .slice Q 0 q, .slice R 0 r, .slice A 0 a, .slice B 0 b] 29)).alloc (.cells #[.slice P' 0 p', .slice Q' 0 q', .slice R' 0 r', .slice A' 0 a', .slice B' 0 b'] 29)).heap.size := by simp only [World.size_alloc]; omega
  generalize ((w.alloc (.cells #[.slice P 0 p, .slice Q 0 q, .slice R 0 r, .slice A 0 a, .slice B 0 b] 29)).alloc (.cells #[.slice P' 0 p', .slice Q' 0 q', .slice R' 0 r', .slice A' 0 a', .slice B' 0 b'] 29)) = w0 at *
  have ck0 := k0.cell
  have fk0 := k0.frozen
  have ck1 := k1.cell
  have fk1 := k1.frozen
  refine (eqStore_em _ _ ⟨P, p, Q, q, R, r, rfl⟩ ⟨P', p', Q', q', R', r', rfl⟩ w0).mono ?_
  rintro e w1 ⟨rfl, b1⟩
  replace k0 := blk_keep k0 b1
  replace ck0 := k0.cell
  replace fk0 := k0.frozen
  replace k1 := blk_keep k1 b1
  replace ck1 := k1.cell
  replace fk1 := k1.frozen
  replace hbw0 := below_below hbw0 b1
  go_wp2_with fail
  refine (eqIntS_em A A' a a' _).mono ?_
  rintro e w' ⟨rfl, rfl⟩
  go_wp2_with fail
  refine (eqIntS_em B B' b b' _).mono ?_
  rintro e w' ⟨rfl, rfl⟩
  go_wp2_with fail
  go_ret
  exact ⟨rfl, hbw0⟩
theorem markSweep_em (v : Value) (h : ESw0 v) (k : Int) (w : World) : Calls Try.prog 32 #[v, .int .i64 k] w fun e w' => e = .returned (.int .i64 k) ∧ Below w.heap.size w w' := by
  obtain ⟨P, p, Q, q, R, r, A, a, B, b, rfl⟩ := h
  go_enter Try.func32, Try.ntmps32
  go_wp2_with fail
  have hbw0 : Below w.heap.size w (w.alloc (.cells #[.slice P 0 p, .slice Q 0 q, .slice R 0 r, .slice A 0 a, .slice B 0 b] 29)) := below_alloc _ _
  have k0 : Blk (w.alloc (.cells #[.slice P 0 p, .slice Q 0 q, .slice R 0 r, .slice A 0 a, .slice B 0 b] 29)) (w.heap.size) 29 #[.slice P 0 p, .slice Q 0 q, .slice R 0 r, .slice A 0 a, .slice B 0 b] := by
    have hk := Blk.new w 29 #[.slice P 0 p, .slice Q 0 q, .slice R 0 r, .slice A 0 a, .slice B 0 b]
    exact hk
  have hsw0 : w.heap.size + 1 ≤ (w.alloc (.cells #[.slice P 0 p, .slice Q 0 q, .slice R 0 r, .slice A 0 a, .slice B 0 b] 29)).heap.size := by simp only [World.size_alloc]; omega
  generalize (w.alloc (.cells #[.slice P 0 p, .slice Q 0 q, .slice R 0 r, .slice A 0 a, .slice B 0 b] 29)) = w0 at *
  have ck0 := k0.cell
  have fk0 := k0.frozen
  refine (markStore_em _ ⟨P, p, Q, q, R, r, rfl⟩ k w0).mono ?_
  rintro e w1 ⟨rfl, b1⟩
  replace k0 := blk_keep k0 b1
  replace ck0 := k0.cell
  replace fk0 := k0.frozen
  replace hbw0 := below_below hbw0 b1
  go_wp2_with fail
  refine (markIntS_em A a k _).mono ?_
  rintro e w' ⟨rfl, rfl⟩
  go_wp2_with fail
  refine (markIntS_em B b k _).mono ?_
  rintro e w' ⟨rfl, rfl⟩
  go_wp2_with fail
  go_ret
  exact ⟨rfl, hbw0⟩
theorem heldSweep_em (v : Value) (h : ESw0 v) (k : Int) (hk : 0 ≤ k) (w : World) : Calls Try.prog 35 #[v, .int .i64 k] w fun e w' => e = .returned (.int .i64 k) ∧ Below w.heap.size w w' := by
  obtain ⟨P, p, Q, q, R, r, A, a, B, b, rfl⟩ := h
  have u : decide (k < 0) = false := decide_eq_false (by omega)
  go_enter Try.func35, Try.ntmps35
  go_wp2_with fail
  have hbw0 : Below w.heap.size w (w.alloc (.cells #[.slice P 0 p, .slice Q 0 q, .slice R 0 r, .slice A 0 a, .slice B 0 b] 29)) := below_alloc _ _
  have k0 : Blk (w.alloc (.cells #[.slice P 0 p, .slice Q 0 q, .slice R 0 r, .slice A 0 a, .slice B 0 b] 29)) (w.heap.size) 29 #[.slice P 0 p, .slice Q 0 q, .slice R 0 r, .slice A 0 a, .slice B 0 b] := by
    have hk := Blk.new w 29 #[.slice P 0 p, .slice Q 0 q, .slice R 0 r, .slice A 0 a, .slice B 0 b]
    exact hk
  have hsw0 : w.heap.size + 1 ≤ (w.alloc (.cells #[.slice P 0 p, .slice Q 0 q, .slice R 0 r, .slice A 0 a, .slice B 0 b] 29)).heap.size := by simp only [World.size_alloc]; omega
  generalize (w.alloc (.cells #[.slice P 0 p, .slice Q 0 q, .slice R 0 r, .slice A 0 a, .slice B 0 b] 29)) = w0 at *
  have ck0 := k0.cell
  have fk0 := k0.frozen
  refine (heldStore_em _ ⟨P, p, Q, q, R, r, rfl⟩ k hk w0).mono ?_
  rintro e w1 ⟨rfl, b1⟩
  replace k0 := blk_keep k0 b1
  replace ck0 := k0.cell
  replace fk0 := k0.frozen
  replace hbw0 := below_below hbw0 b1
  go_wp2_with fail
  refine (heldIntS_em A a k _).mono ?_
  rintro e w' ⟨rfl, rfl⟩
  go_wp2_with fail
  refine (heldIntS_em B b k _).mono ?_
  rintro e w' ⟨rfl, rfl⟩
  go_wp2_with fail
  go_ret
  exact ⟨rfl, hbw0⟩
theorem eqLie_em (a b c : Int) (s : ByteArray) (w : World) : Calls Try.prog 29 #[.agg #[.int .i64 a, .int .i64 b, .int .i64 c, .string s], .agg #[.int .i64 a, .int .i64 b, .int .i64 c, .string s]] w fun e w' => e = .returned (.bool true) ∧ Below w.heap.size w w' := by
  go_enter Try.func29, Try.ntmps29
  go_wp2_with fail
  go_ret
  exact ⟨rfl, below2 _ _ _⟩
/-- A world without anything but what its machines keep, and found. -/
def EWo (key : Int) (ks : List Me) (fs : List Int) (w : World) (base : Nat) (v : Value) : Prop :=
  ∃ P p Q q R r A a B b K F, v = .agg #[.int .i64 key, .slice P 0 p, .slice Q 0 q, .slice R 0 r, .slice A 0 a, .slice B 0 b, .int .i64 0, .int .i64 0, .int .i64 0, .string ⟨#[]⟩, K, F] ∧ OwnF FMe 64 w base K ks ∧ OwnF FInt 3 w base F fs
theorem EWo.below {key : Int} {ks : List Me} {fs : List Int} {w w' : World} {base : Nat} {v : Value} (h : EWo key ks fs w base v) (hb : Below w.heap.size w w') : EWo key ks fs w' base v := by
  obtain ⟨P, p, Q, q, R, r, A, a, B, b, K, F, rfl, h1, h2⟩ := h
  exact ⟨P, p, Q, q, R, r, A, a, B, b, K, F, rfl, h1.below hb, h2.below hb⟩
set_option maxRecDepth 4000 in
theorem eqWorld_em (key : Int) (ks : List Me) (fs : List Int) (hk : ∀ x ∈ ks, FMe.good x) (hf : ∀ x ∈ fs, In64 x) (v v' : Value) (w : World) (b0 b0' : Nat) (h : EWo key ks fs w b0 v) (h' : EWo key ks fs w b0' v') : Calls Try.prog 9 #[v, v'] w fun e w' => e = .returned (.bool true) ∧ Below w.heap.size w w' := by
  obtain ⟨P, p, Q, q, R, r, A, a, B, b, K, F, rfl, o1, o2⟩ := h
  obtain ⟨P', p', Q', q', R', r', A', a', B', b', K', F', rfl, o3, o4⟩ := h'
  have HK := Lib.hid hk; have HF := Lib.hid hf; clear hk hf
  obtain ⟨AK, cK, rfl⟩ := o1.form
  obtain ⟨AF, cF, rfl⟩ := o2.form
  obtain ⟨AK', cK', rfl⟩ := o3.form
  obtain ⟨AF', cF', rfl⟩ := o4.form
  go_enter Try.func9, Try.ntmps9
  go_wp2_with fail
  have hbw0 : Below w.heap.size w ((w.alloc (.cells #[.int .i64 key, .slice P 0 p, .slice Q 0 q, .slice R 0 r, .slice A 0 a, .slice B 0 b, .int .i64 0, .int .i64 0, .int .i64 0, .string ⟨#[]⟩, .slice AK ks.length cK, .slice AF fs.length cF] 34)).alloc (.cells #[.int .i64 key, .slice P' 0 p', .slice Q' 0 q', .slice R' 0 r', .slice A' 0 a', .slice B' 0 b', .int .i64 0, .int .i64 0, .int .i64 0, .string ⟨#[]⟩, .slice AK' ks.length cK', .slice AF' fs.length cF'] 34)) := below_alloc' (below_alloc _ _) _
  have k0 : Blk ((w.alloc (.cells #[.int .i64 key, .slice P 0 p, .slice Q 0 q, .slice R 0 r, .slice A 0 a, .slice B 0 b, .int .i64 0, .int .i64 0, .int .i64 0, .string ⟨#[]⟩, .slice AK ks.length cK, .slice AF fs.length cF] 34)).alloc (.cells #[.int .i64 key, .slice P' 0 p', .slice Q' 0 q', .slice R' 0 r', .slice A' 0 a', .slice B' 0 b', .int .i64 0, .int .i64 0, .int .i64 0, .string ⟨#[]⟩, .slice AK' ks.length cK', .slice AF' fs.length cF'] 34)) (w.heap.size) 34 #[.int .i64 key, .slice P 0 p, .slice Q 0 q, .slice R 0 r, .slice A 0 a, .slice B 0 b, .int .i64 0, .int .i64 0, .int .i64 0, .string ⟨#[]⟩, .slice AK ks.length cK, .slice AF fs.length cF] := by
    have hk := blk_alloc (Blk.new w 34 #[.int .i64 key, .slice P 0 p, .slice Q 0 q, .slice R 0 r, .slice A 0 a, .slice B 0 b, .int .i64 0, .int .i64 0, .int .i64 0, .string ⟨#[]⟩, .slice AK ks.length cK, .slice AF fs.length cF]) (.cells #[.int .i64 key, .slice P' 0 p', .slice Q' 0 q', .slice R' 0 r', .slice A' 0 a', .slice B' 0 b', .int .i64 0, .int .i64 0, .int .i64 0, .string ⟨#[]⟩, .slice AK' ks.length cK', .slice AF' fs.length cF'] 34)
    exact hk
  have k1 : Blk ((w.alloc (.cells #[.int .i64 key, .slice P 0 p, .slice Q 0 q, .slice R 0 r, .slice A 0 a, .slice B 0 b, .int .i64 0, .int .i64 0, .int .i64 0, .string ⟨#[]⟩, .slice AK ks.length cK, .slice AF fs.length cF] 34)).alloc (.cells #[.int .i64 key, .slice P' 0 p', .slice Q' 0 q', .slice R' 0 r', .slice A' 0 a', .slice B' 0 b', .int .i64 0, .int .i64 0, .int .i64 0, .string ⟨#[]⟩, .slice AK' ks.length cK', .slice AF' fs.length cF'] 34)) (w.heap.size + 1) 34 #[.int .i64 key, .slice P' 0 p', .slice Q' 0 q', .slice R' 0 r', .slice A' 0 a', .slice B' 0 b', .int .i64 0, .int .i64 0, .int .i64 0, .string ⟨#[]⟩, .slice AK' ks.length cK', .slice AF' fs.length cF'] := by
    have hk := Blk.new (w.alloc (.cells #[.int .i64 key, .slice P 0 p, .slice Q 0 q, .slice R 0 r, .slice A 0 a, .slice B 0 b, .int .i64 0, .int .i64 0, .int .i64 0, .string ⟨#[]⟩, .slice AK ks.length cK, .slice AF fs.length cF] 34)) 34 #[.int .i64 key, .slice P' 0 p', .slice Q' 0 q', .slice R' 0 r', .slice A' 0 a', .slice B' 0 b', .int .i64 0, .int .i64 0, .int .i64 0, .string ⟨#[]⟩, .slice AK' ks.length cK', .slice AF' fs.length cF']
    simp only [World.size_alloc] at hk
    exact hk
  have hsw0 : w.heap.size + 2 ≤ ((w.alloc (.cells #[.int .i64 key, .slice P 0 p, .slice Q 0 q, .slice R 0 r, .slice A 0 a, .slice B 0 b, .int .i64 0, .int .i64 0, .int .i64 0, .string ⟨#[]⟩, .slice AK ks.length cK, .slice AF fs.length cF] 34)).alloc (.cells #[.int .i64 key, .slice P' 0 p', .slice Q' 0 q', .slice R' 0 r', .slice A' 0 a', .slice B' 0 b', .int .i64 0, .int .i64 0, .int .i64 0, .string ⟨#[]⟩, .slice AK' ks.length cK', .slice AF' fs.length cF'] 34)).heap.size := by simp only [World.size_alloc]; omega
  generalize ((w.alloc (.cells #[.int .i64 key, .slice P 0 p, .slice Q 0 q, .slice R 0 r, .slice A 0 a, .slice B 0 b, .int .i64 0, .int .i64 0, .int .i64 0, .string ⟨#[]⟩, .slice AK ks.length cK, .slice AF fs.length cF] 34)).alloc (.cells #[.int .i64 key, .slice P' 0 p', .slice Q' 0 q', .slice R' 0 r', .slice A' 0 a', .slice B' 0 b', .int .i64 0, .int .i64 0, .int .i64 0, .string ⟨#[]⟩, .slice AK' ks.length cK', .slice AF' fs.length cF'] 34)) = w0 at *
  have ck0 := k0.cell
  have fk0 := k0.frozen
  have ck1 := k1.cell
  have fk1 := k1.frozen
  have r1 := (o1.below hbw0).sl HK.out (Nat.le_refl _)
  have r3 := (o3.below hbw0).sl HK.out (Nat.le_refl _)
  have r2 := (o2.below hbw0).sl HF.out (Nat.le_refl _)
  have r4 := (o4.below hbw0).sl HF.out (Nat.le_refl _)
  have t0 : decide (fs = fs) = true := by simp
  refine (eqSweep_em _ _ ⟨P, p, Q, q, R, r, A, a, B, b, rfl⟩ ⟨P', p', Q', q', R', r', A', a', B', b', rfl⟩ w0).mono ?_
  rintro e w1 ⟨rfl, b1⟩
  replace k0 := blk_keep k0 b1
  replace ck0 := k0.cell
  replace fk0 := k0.frozen
  replace k1 := blk_keep k1 b1
  replace ck1 := k1.cell
  replace fk1 := k1.frozen
  replace hbw0 := below_below hbw0 b1
  replace r1 := sl_keep (RFlat.loc FMe) r1 b1 (Nat.le_refl _)
  replace r3 := sl_keep (RFlat.loc FMe) r3 b1 (Nat.le_refl _)
  replace r2 := sl_keep (RFlat.loc FInt) r2 b1 (Nat.le_refl _)
  replace r4 := sl_keep (RFlat.loc FInt) r4 b1 (Nat.le_refl _)
  go_wp2_with fail
  refine (eqLie_em 0 0 0 ⟨#[]⟩ w1).mono ?_
  rintro e w2 ⟨rfl, b2⟩
  replace k0 := blk_keep k0 b2
  replace ck0 := k0.cell
  replace fk0 := k0.frozen
  replace k1 := blk_keep k1 b2
  replace ck1 := k1.cell
  replace fk1 := k1.frozen
  replace hbw0 := below_below hbw0 b2
  replace r1 := sl_keep (RFlat.loc FMe) r1 b2 b1.size
  replace r3 := sl_keep (RFlat.loc FMe) r3 b2 b1.size
  replace r2 := sl_keep (RFlat.loc FInt) r2 b2 b1.size
  replace r4 := sl_keep (RFlat.loc FInt) r4 b2 b1.size
  have z2 := Nat.le_trans b1.size b2.size
  go_wp2_with fail
  refine (eqMemoryS_any ks ks _ _ w2 _ _ _ _ r1 r3 z2 z2 true (by simp)).mono ?_
  rintro e w3 ⟨rfl, b3⟩
  replace k0 := blk_keep k0 b3
  replace ck0 := k0.cell
  replace fk0 := k0.frozen
  replace k1 := blk_keep k1 b3
  replace ck1 := k1.cell
  replace fk1 := k1.frozen
  replace hbw0 := below_below hbw0 b3
  replace r2 := sl_keep (RFlat.loc FInt) r2 b3 z2
  replace r4 := sl_keep (RFlat.loc FInt) r4 b3 z2
  go_wp2_with fail
  refine (eqIntS_any fs fs _ _ w3 _ _ _ _ r2 r4).mono ?_
  rintro e w4 ⟨rfl, n4, h4⟩
  have b4 : Below w3.heap.size w3 w4 := h4 ▸ below_drewN (Below.refl w3.heap.size w3) n4
  clear h4
  go_wp2_with fail
  go_ret
  exact ⟨rfl, below_below hbw0 b4⟩
/-- A world without anything, marked from 1 on. -/
def MWo (key : Int) (n m : Nat) (w : World) (base : Nat) (v : Value) : Prop :=
  ∃ P p Q q R r A a B b AK cK AF cF, v = .agg #[.int .i64 key, .slice P 0 p, .slice Q 0 q, .slice R 0 r, .slice A 0 a, .slice B 0 b, .int .i64 0, .int .i64 0, .int .i64 0, .string ⟨#[]⟩, .slice AK n cK, .slice AF m cF] ∧ w.ownsRow base 64 2 (.slice AK n cK) n (markC 1 (n * 2)) ∧ OwnI w base (.slice AF m cF) (marks (1 + n * 2) m)
set_option maxRecDepth 4000 in
theorem markWorld_em (key : Int) (ks : List Me) (fs : List Int) (hl : ks.length ≤ 1000 ∧ fs.length ≤ 1000) (P : Option Addr) (p : Nat) (Q : Option Addr) (q : Nat) (R : Option Addr) (r : Nat) (A : Option Addr) (a : Nat) (B : Option Addr) (b : Nat) (AK : Option Addr) (cK : Nat) (AF : Option Addr) (cF : Nat) (w : World) (b0 : Nat) (o1 : OwnF FMe 64 w b0 (.slice AK ks.length cK) ks) (o2 : OwnF FInt 3 w b0 (.slice AF fs.length cF) fs) :
    Calls Try.prog 10 #[.agg #[.int .i64 key, .slice P 0 p, .slice Q 0 q, .slice R 0 r, .slice A 0 a, .slice B 0 b, .int .i64 0, .int .i64 0, .int .i64 0, .string ⟨#[]⟩, .slice AK ks.length cK, .slice AF fs.length cF], .int .i64 1] w fun e w' => e = .returned (.int .i64 (1 + ks.length * 2 + fs.length)) ∧ (w'.ownsRow b0 64 2 (.slice AK ks.length cK) ks.length (markC 1 (ks.length * 2)) ∧ OwnI w' b0 (.slice AF fs.length cF) (marks (1 + ks.length * 2) fs.length)) ∧ Chg (fun b => (Value.slice AK ks.length cK).ownBlock = some b ∨ (Value.slice AF fs.length cF).ownBlock = some b) w w' := by
  have a1 := Lib.hid (fun g hg => o1.at_ (g := g) hg)
  have a2 := Lib.hid (fun g hg => o2.at_ (g := g) hg)
  go_enter Try.func10, Try.ntmps10
  go_wp2_with fail
  have hbw0 : Below w.heap.size w (w.alloc (.cells #[.int .i64 key, .slice P 0 p, .slice Q 0 q, .slice R 0 r, .slice A 0 a, .slice B 0 b, .int .i64 0, .int .i64 0, .int .i64 0, .string ⟨#[]⟩, .slice AK ks.length cK, .slice AF fs.length cF] 34)) := below_alloc _ _
  have k0 : Blk (w.alloc (.cells #[.int .i64 key, .slice P 0 p, .slice Q 0 q, .slice R 0 r, .slice A 0 a, .slice B 0 b, .int .i64 0, .int .i64 0, .int .i64 0, .string ⟨#[]⟩, .slice AK ks.length cK, .slice AF fs.length cF] 34)) (w.heap.size) 34 #[.int .i64 key, .slice P 0 p, .slice Q 0 q, .slice R 0 r, .slice A 0 a, .slice B 0 b, .int .i64 0, .int .i64 0, .int .i64 0, .string ⟨#[]⟩, .slice AK ks.length cK, .slice AF fs.length cF] := by
    have hk := Blk.new w 34 #[.int .i64 key, .slice P 0 p, .slice Q 0 q, .slice R 0 r, .slice A 0 a, .slice B 0 b, .int .i64 0, .int .i64 0, .int .i64 0, .string ⟨#[]⟩, .slice AK ks.length cK, .slice AF fs.length cF]
    exact hk
  have hsw0 : w.heap.size + 1 ≤ (w.alloc (.cells #[.int .i64 key, .slice P 0 p, .slice Q 0 q, .slice R 0 r, .slice A 0 a, .slice B 0 b, .int .i64 0, .int .i64 0, .int .i64 0, .string ⟨#[]⟩, .slice AK ks.length cK, .slice AF fs.length cF] 34)).heap.size := by simp only [World.size_alloc]; omega
  generalize (w.alloc (.cells #[.int .i64 key, .slice P 0 p, .slice Q 0 q, .slice R 0 r, .slice A 0 a, .slice B 0 b, .int .i64 0, .int .i64 0, .int .i64 0, .string ⟨#[]⟩, .slice AK ks.length cK, .slice AF fs.length cF] 34)) = w0 at *
  have ck0 := k0.cell
  have fk0 := k0.frozen
  replace o1 := o1.below hbw0
  replace o2 := o2.below hbw0
  have cc : Chg (fun b => (Value.slice AK ks.length cK).ownBlock = some b ∨ (Value.slice AF fs.length cF).ownBlock = some b) w w0 := Chg.of_below hbw0
  refine (markSweep_em _ ⟨P, p, Q, q, R, r, A, a, B, b, rfl⟩ 1 w0).mono ?_
  rintro e w1 ⟨rfl, b1⟩
  replace k0 := blk_keep k0 b1
  replace ck0 := k0.cell
  replace fk0 := k0.frozen
  replace o1 := o1.below b1
  replace o2 := o2.below b1
  replace cc := cc.trans (Chg.of_below (S := (fun b => (Value.slice AK ks.length cK).ownBlock = some b ∨ (Value.slice AF fs.length cF).ownBlock = some b)) b1) fun _ _ h => h
  have n12 := own_apart o1 o2 (by decide)
  go_wp2_with fail
  refine (markMemoryS_any ks.length _ _ w1 _ 1 o1 (by omega) (by omega) (by omega)).mono ?_
  rintro e w2 ⟨rfl, m1, c2⟩
  replace o2 := o2.chg c2 (fun b hb hs => n12 b hs hb)
  replace k0 := blk_chg k0 c2 (fun hs => by have := (a1.out _ hs).2; omega)
  replace ck0 := k0.cell
  replace fk0 := k0.frozen
  replace cc := cc.trans c2 fun i _ hs => .inl hs
  go_wp2_with fail
  refine (markIntS_any fs _ w2 _ (1 + (ks.length : Int) * 2) (OwnI_iff.2 o2) (by omega) (by omega) (by omega)).mono ?_
  rintro e w3 ⟨rfl, m2, c3⟩
  replace m1 := own_chg m1 c3 (fun b hb hs => n12 b hb hs)
  replace cc := cc.trans c3 fun i _ hs => .inr hs
  go_wp2_with fail
  go_ret
  exact ⟨rfl, ⟨m1, m2⟩, cc⟩
set_option maxRecDepth 4000 in
theorem heldWorld_em (key : Int) (n m : Nat) (hl : n ≤ 1000 ∧ m ≤ 1000) (v : Value) (w : World) (b0 : Nat) (h : MWo key n m w b0 v) : Calls Try.prog 11 #[v, .int .i64 1] w fun e w' => e = .returned (.int .i64 (1 + n * 2 + m)) ∧ Below w.heap.size w w' := by
  obtain ⟨P, p, Q, q, R, r, A, a, B, b, AK, cK, AF, cF, rfl, o1, o2⟩ := h
  have hmi : Hid (∀ x ∈ marks (1 + n * 2) m, In64 x) := Lib.hid fun x hx => by
    obtain ⟨j, hj⟩ := List.getElem?_of_mem hx
    have hlt := lt_of_some hj
    rw [marks_len] at hlt
    rw [marks_get _ m j hlt] at hj
    cases hj
    unfold In64; omega
  have u1 : decide (1 + (n : Int) * 2 < 0) = false := decide_eq_false (by omega)
  have u2 : decide (1 + (n : Int) * 2 + (m : Int) < 0) = false := decide_eq_false (by omega)
  go_enter Try.func11, Try.ntmps11
  go_wp2_with fail
  have hbw0 : Below w.heap.size w (w.alloc (.cells #[.int .i64 key, .slice P 0 p, .slice Q 0 q, .slice R 0 r, .slice A 0 a, .slice B 0 b, .int .i64 0, .int .i64 0, .int .i64 0, .string ⟨#[]⟩, .slice AK n cK, .slice AF m cF] 34)) := below_alloc _ _
  have k0 : Blk (w.alloc (.cells #[.int .i64 key, .slice P 0 p, .slice Q 0 q, .slice R 0 r, .slice A 0 a, .slice B 0 b, .int .i64 0, .int .i64 0, .int .i64 0, .string ⟨#[]⟩, .slice AK n cK, .slice AF m cF] 34)) (w.heap.size) 34 #[.int .i64 key, .slice P 0 p, .slice Q 0 q, .slice R 0 r, .slice A 0 a, .slice B 0 b, .int .i64 0, .int .i64 0, .int .i64 0, .string ⟨#[]⟩, .slice AK n cK, .slice AF m cF] := by
    have hk := Blk.new w 34 #[.int .i64 key, .slice P 0 p, .slice Q 0 q, .slice R 0 r, .slice A 0 a, .slice B 0 b, .int .i64 0, .int .i64 0, .int .i64 0, .string ⟨#[]⟩, .slice AK n cK, .slice AF m cF]
    exact hk
  have hsw0 : w.heap.size + 1 ≤ (w.alloc (.cells #[.int .i64 key, .slice P 0 p, .slice Q 0 q, .slice R 0 r, .slice A 0 a, .slice B 0 b, .int .i64 0, .int .i64 0, .int .i64 0, .string ⟨#[]⟩, .slice AK n cK, .slice AF m cF] 34)).heap.size := by simp only [World.size_alloc]; omega
  generalize (w.alloc (.cells #[.int .i64 key, .slice P 0 p, .slice Q 0 q, .slice R 0 r, .slice A 0 a, .slice B 0 b, .int .i64 0, .int .i64 0, .int .i64 0, .string ⟨#[]⟩, .slice AK n cK, .slice AF m cF] 34)) = w0 at *
  have ck0 := k0.cell
  have fk0 := k0.frozen
  replace o1 := own_below' o1 hbw0
  replace o2 := o2.below hbw0
  refine (heldSweep_em _ ⟨P, p, Q, q, R, r, A, a, B, b, rfl⟩ 1 (by omega) w0).mono ?_
  rintro e w1 ⟨rfl, b1⟩
  replace k0 := blk_keep k0 b1
  replace ck0 := k0.cell
  replace fk0 := k0.frozen
  replace o1 := own_below' o1 b1
  replace o2 := o2.below b1
  replace hbw0 := below_below hbw0 b1
  go_wp2_with fail
  refine (heldMemoryS_any n _ w1 _ 1 o1 (by omega) (by omega) (by omega)).mono ?_
  rintro e w2 ⟨rfl, rfl⟩
  go_wp2_with fail
  refine (heldIntS_any m _ w1 _ _ (1 + (n : Int) * 2) (o2.sl hmi.out (Nat.le_refl _)) (by omega) (by omega) (by omega)).mono ?_
  rintro e w2 ⟨rfl, rfl⟩
  go_wp2_with fail
  go_ret
  exact ⟨rfl, hbw0⟩
end Go.Proofs.Ytalkkdhbccjepaa
