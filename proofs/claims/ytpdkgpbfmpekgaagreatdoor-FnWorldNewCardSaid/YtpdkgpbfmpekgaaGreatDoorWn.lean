


/- Worlds without anything: compared, marked, held. -/
import Derived.Test.YtpdkgpbfmpekgaaGreatDoorEMemory
import Derived.Test.YtpdkgpbfmpekgaaGreatDoorMkI
import Derived.Test.YtpdkgpbfmpekgaaGreatDoorInts
namespace Go.Proofs.YtpdkgpbfmpekgaaGreatDoor
open Go.RowKit

theorem eqPackS_em (A B : Option Addr) (a b : Nat) (w : World) : Calls Tryz.prog 111 #[.slice A 0 a, .slice B 0 b] w fun e w' => e = .returned (.bool true) ∧ w = w' := by
  go_enter Tryz.func111, Tryz.ntmps111
  go_wp2_with fail
  go_loop [5] (fun i => i = .int .i64 0) (fun _ => 0)
  case atStart => rfl
  case round =>
    obtain rfl := hrel
    go_wp2_with fail
    go_ret
    exact ⟨rfl, rfl⟩
theorem eqSnapS_em (A B : Option Addr) (a b : Nat) (w : World) : Calls Tryz.prog 112 #[.slice A 0 a, .slice B 0 b] w fun e w' => e = .returned (.bool true) ∧ w = w' := by
  go_enter Tryz.func112, Tryz.ntmps112
  go_wp2_with fail
  go_loop [5] (fun i => i = .int .i64 0) (fun _ => 0)
  case atStart => rfl
  case round =>
    obtain rfl := hrel
    go_wp2_with fail
    go_ret
    exact ⟨rfl, rfl⟩
theorem eqHeadS_em (A B : Option Addr) (a b : Nat) (w : World) : Calls Tryz.prog 113 #[.slice A 0 a, .slice B 0 b] w fun e w' => e = .returned (.bool true) ∧ w = w' := by
  go_enter Tryz.func113, Tryz.ntmps113
  go_wp2_with fail
  go_loop [5] (fun i => i = .int .i64 0) (fun _ => 0)
  case atStart => rfl
  case round =>
    obtain rfl := hrel
    go_wp2_with fail
    go_ret
    exact ⟨rfl, rfl⟩
/-- A store without anything. -/
def ESt0 (v : Value) : Prop := ∃ A a B b C c, v = .agg #[.slice A 0 a, .slice B 0 b, .slice C 0 c]
def ESw0 (v : Value) : Prop := ∃ P p Q q R r A a B b, v = .agg #[.slice P 0 p, .slice Q 0 q, .slice R 0 r, .slice A 0 a, .slice B 0 b]
theorem below2 (w : World) (o p : Obj) : Below w.heap.size w ((w.alloc o).alloc p) := below_below (below_alloc w o) (below_alloc _ p)
theorem eqStore_em (v v' : Value) (h : ESt0 v) (h' : ESt0 v') (w : World) : Calls Tryz.prog 54 #[v, v'] w fun e w' => e = .returned (.bool true) ∧ Below w.heap.size w w' := by
  obtain ⟨A, a, B, b, C, c, rfl⟩ := h
  obtain ⟨A', a', B', b', C', c', rfl⟩ := h'
  go_enter Tryz.func54, Tryz.ntmps54
  go_wp2_with fail
  refine (eqPackS_em A A' a a' _).mono ?_
  rintro e w' ⟨rfl, rfl⟩
  go_wp2_with fail
  refine (eqSnapS_em B B' b b' _).mono ?_
  rintro e w' ⟨rfl, rfl⟩
  go_wp2_with fail
  refine (eqHeadS_em C C' c c' _).mono ?_
  rintro e w' ⟨rfl, rfl⟩
  go_wp2_with fail
  go_ret
  exact ⟨rfl, below2 _ _ _⟩
theorem sl_em {w : World} {lo hi : Nat} (A : Option Addr) {c : Nat} (hc : c ≤ maxLen) : RSl RInt 1 w lo hi [] [.slice A 0 c] := ⟨A, c, rfl, Nat.zero_le _, hc, fun h => absurd h (by simp)⟩
theorem eqIntS_em (A B : Option Addr) (a b : Nat) (w : World) : Calls Tryz.prog 81 #[.slice A 0 a, .slice B 0 b] w fun e w' => e = .returned (.bool true) ∧ w = w' := by
  go_enter Tryz.func81, Tryz.ntmps81
  go_wp2_with fail
  go_loop [5] (fun i => i = .int .i64 0) (fun _ => 0)
  case atStart => rfl
  case round =>
    obtain rfl := hrel
    go_wp2_with fail
    go_ret
    exact ⟨rfl, rfl⟩
theorem eqSweep_em (v v' : Value) (h : ESw0 v) (h' : ESw0 v') (w : World) : Calls Tryz.prog 25 #[v, v'] w fun e w' => e = .returned (.bool true) ∧ Below w.heap.size w w' := by
  obtain ⟨P, p, Q, q, R, r, A, a, B, b, rfl⟩ := h
  obtain ⟨P', p', Q', q', R', r', A', a', B', b', rfl⟩ := h'
  go_enter Tryz.func25, Tryz.ntmps25
  go_wp2_with fail
  have hbw0 : Below w.heap.size w ((w.alloc (.cells #[.slice P 0 p, .slice Q 0 q, .slice R 0 r, .slice A 0 a, .slice B 0 b] 52)).alloc (.cells #[.slice P' 0 p', .slice Q' 0 q', .slice R' 0 r', .slice A' 0 a', .slice B' 0 b'] 52)) := below_alloc' (below_alloc _ _) _
  have k0 : Blk ((w.alloc (.cells #[.slice P 0 p, .slice Q 0 q, .slice R 0 r, .slice A 0 a, .slice B 0 b] 52)).alloc (.cells #[.slice P' 0 p', .slice Q' 0 q', .slice R' 0 r', .slice A' 0 a', .slice B' 0 b'] 52)) (w.heap.size) 52 #[.slice P 0 p, .slice Q 0 q, .slice R 0 r, .slice A 0 a, .slice B 0 b] := by
    have hk := blk_alloc (Blk.new w 52 #[.slice P 0 p, .slice Q 0 q, .slice R 0 r, .slice A 0 a, .slice B 0 b]) (.cells #[.slice P' 0 p', .slice Q' 0 q', .slice R' 0 r', .slice A' 0 a', .slice B' 0 b'] 52)
    exact hk
  have k1 : Blk ((w.alloc (.cells #[.slice P 0 p, .slice Q 0 q, .slice R 0 r, .slice A 0 a, .slice B 0 b] 52)).alloc (.cells #[.slice P' 0 p', .slice Q' 0 q', .slice R' 0 r', .slice A' 0 a', .slice B' 0 b'] 52)) (w.heap.size + 1) 52 #[.slice P' 0 p', .slice Q' 0 q', .slice R' 0 r', .slice A' 0 a', .slice B' 0 b'] := by
    have hk := Blk.new (w.alloc (.cells #[.slice P 0 p, .slice Q 0 q, .slice R 0 r, .slice A 0 a, .slice B 0 b] 52)) 52 #[.slice P' 0 p', .slice Q' 0 q', .slice R' 0 r', .slice A' 0 a', .slice B' 0 b']
    simp only [World.size_alloc] at hk
    exact hk
  have hsw0 : w.heap.size + 2 ≤ ((w.alloc (.cells #[.slice P 0 p, .slice Q 0 q, .slice R 0 r, .slice A 0 a, .slice B 0 b] 52)).alloc (.cells #[.slice P' 0 p', .slice Q' 0 q', .slice R' 0 r', .slice A' 0 a', .slice B' 0 b'] 52)).heap.size := by simp only [World.size_alloc]; omega
  generalize ((w.alloc (.cells #[.slice P 0 p, .slice Q 0 q, .slice R 0 r, .slice A 0 a, .slice B 0 b] 52)).alloc (.cells #[.slice P' 0 p', .slice Q' 0 q', .slice R' 0 r', .slice A' 0 a', .slice B' 0 b'] 52)) = w0 at *
  have ck0 := k0.cell
  have fk0 := k0.frozen
  have ck1 := k1.cell
  have fk1 := k1.frozen
  refine (eqStore_em _ _ ⟨P, p, Q, q, R, r, rfl⟩ ⟨P', p', Q', q', R', r', rfl⟩ w0).mono ?_
  rintro e w1 ⟨rfl, b1⟩
  replace k0 := blk_keep k0 b1
  replace ck0 := k0.cell
  replace fk0 := k0.frozen
  replace k1 := blk_keep k1 b1
  replace ck1 := k1.cell
  replace fk1 := k1.frozen
  replace hbw0 := below_below hbw0 b1
  go_wp2_with fail
  refine (eqIntS_em A A' a a' _).mono ?_
  rintro e w' ⟨rfl, rfl⟩
  go_wp2_with fail
  refine (eqIntS_em B B' b b' _).mono ?_
  rintro e w' ⟨rfl, rfl⟩
  go_wp2_with fail
  go_ret
  exact ⟨rfl, hbw0⟩
/-- A world without anything but what its machines keep, and found. -/
def EWo (key : Int) (ks : List Me) (fs : List Int) (w : World) (base : Nat) (v : Value) : Prop :=
  ∃ P p Q q R r A a B b K F, v = .agg #[.int .i64 key, .slice P 0 p, .slice Q 0 q, .slice R 0 r, .slice A 0 a, .slice B 0 b, .int .i64 0, .int .i64 0, .int .i64 0, .string ⟨#[]⟩, K, F] ∧ OwnF FMe 70 w base K ks ∧ OwnF FInt 3 w base F fs
theorem EWo.below {key : Int} {ks : List Me} {fs : List Int} {w w' : World} {base : Nat} {v : Value} (h : EWo key ks fs w base v) (hb : Below w.heap.size w w') : EWo key ks fs w' base v := by
  obtain ⟨P, p, Q, q, R, r, A, a, B, b, K, F, rfl, h1, h2⟩ := h
  exact ⟨P, p, Q, q, R, r, A, a, B, b, K, F, rfl, h1.below hb, h2.below hb⟩
/-- A world without anything, marked from 1 on. -/
def MWo (key : Int) (n m : Nat) (w : World) (base : Nat) (v : Value) : Prop :=
  ∃ P p Q q R r A a B b AK cK AF cF, v = .agg #[.int .i64 key, .slice P 0 p, .slice Q 0 q, .slice R 0 r, .slice A 0 a, .slice B 0 b, .int .i64 0, .int .i64 0, .int .i64 0, .string ⟨#[]⟩, .slice AK n cK, .slice AF m cF] ∧ w.ownsRow base 70 2 (.slice AK n cK) n (markC 1 (n * 2)) ∧ OwnI w base (.slice AF m cF) (marks (1 + n * 2) m)
end Go.Proofs.YtpdkgpbfmpekgaaGreatDoor
