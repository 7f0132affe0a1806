


/- The reader of codes: l6Open makes one, pick takes a number from it. -/
import Derived.Test.YtpdkgpbfmpekgaaGreatDoorBase
namespace Go.Proofs.YtpdkgpbfmpekgaaGreatDoor
open Go.RowKit

/-- Block g is a reader over the bytes l, at place p. -/
def Rd (w : World) (lo hi g : Nat) (l : List Int) (p : Nat) : Prop :=
  ∃ A c, Blk w g 162 #[.slice A l.length c, .int .i64 p] ∧ l.length ≤ 2000 ∧ RSl RByte 1 w lo hi l [.slice A l.length c] ∧ hi ≤ g
/-- What pick may answer. -/
def Picked (n v : Int) : Prop := (n < 1 → v = 0) ∧ (1 ≤ n → 0 ≤ v ∧ v < n)
def PickPost (w : World) (lo hi g : Nat) (l : List Int) (p : Nat) (n : Int) (e : Ending) (w' : World) : Prop :=
  ∃ v : Int, e = .returned (.int .i64 v) ∧ Picked n v ∧ Rd w' lo hi g l (p + 1) ∧ Chg (fun b => b = g) w w'

theorem Rd.chg {w w' : World} {lo hi g : Nat} {l : List Int} {p : Nat} (h : Rd w lo hi g l p) {S : Nat → Prop} (hc : Chg S w w') (hS : ∀ b, b < hi ∨ b = g → ¬ S b) : Rd w' lo hi g l p := by
  obtain ⟨A, c, hb, hl, hr, hg⟩ := h
  have hlt := hb.lt
  exact ⟨A, c, (hc.block g hlt (hS g (.inr rfl))).trans hb, hl, (RSl.loc RByte.loc).go (fun b _ h2 => hc.block b (by omega) (hS b (.inl h2))) (Nat.le_refl _) (Nat.le_refl _) hr, hg⟩

theorem Rd.lt {w : World} {lo hi g : Nat} {l : List Int} {p : Nat} (h : Rd w lo hi g l p) : g < w.heap.size := by
  obtain ⟨A, c, hb, _⟩ := h
  exact hb.lt
theorem Rd.drew {w : World} {lo hi g : Nat} {l : List Int} {p : Nat} (h : Rd w lo hi g l p) : Rd w.drew lo hi g l p := h.chg ((Chg.refl (fun _ => False) _).drew) (fun _ _ h => h)
theorem Rd.alloc {w : World} {lo hi g : Nat} {l : List Int} {p : Nat} (h : Rd w lo hi g l p) (o : Obj) : Rd (w.alloc o) lo hi g l p := h.chg ((Chg.refl (fun _ => False) _).alloc o) (fun _ _ h => h)
theorem Rd.set_ {w : World} {lo hi g : Nat} {l : List Int} {p : Nat} (h : Rd w lo hi g l p) {q : Addr} (u : Value) (hq : hi ≤ q.block ∧ q.block ≠ g) : Rd (w.setCell q u) lo hi g l p :=
  h.chg (S := fun b => b = q.block) ((Chg.refl (fun b => b = q.block) w).setCell (p := q) (.inl rfl) u) fun b hb e => by
    subst e
    rcases hb with hb | hb
    · omega
    · exact hq.2 hb
theorem rd_step {w : World} {lo hi g : Nat} {l : List Int} {p : Nat} (h : Rd w lo hi g l p) (n : Int) (hn : n = (p : Int) + 1) : Rd (w.setCell ⟨g, 1, none⟩ (.int .i64 n)) lo hi g l (p + 1) := by
  obtain ⟨A, c, hb, hl, hr, hg⟩ := h
  refine ⟨A, c, ?_, hl, ?_, hg⟩
  · have := hb.set_ 1 (.int .i64 n)
    rw [hn] at this ⊢
    exact this
  · refine (RSl.loc RByte.loc).go (fun b _ hb2 => ?_) (Nat.le_refl _) (Nat.le_refl _) hr
    exact Below.heap_setCell _ _ _ _ (by show b ≠ g; omega)

theorem ofInt_nat (a : Nat) (ha : a < 9223372036854775808) : (BitVec.ofInt 64 (a : Int)).toNat = a := by
  rw [BitVec.ofInt_natCast, BitVec.toNat_ofNat]; exact Nat.mod_eq_of_lt (by omega)
theorem xor_nonneg (a b : Int) (ha : 0 ≤ a) (ha' : a < 9223372036854775808) (hb : 0 ≤ b) (hb' : b < 9223372036854775808) : 0 ≤ bits .xor .i64 a b := by
  obtain ⟨a, rfl⟩ := Int.eq_ofNat_of_zero_le ha
  obtain ⟨b, rfl⟩ := Int.eq_ofNat_of_zero_le hb
  have hx : a ^^^ b < 2 ^ 63 := Nat.xor_lt_two_pow (by omega) (by omega)
  show 0 ≤ IntKind.i64.wrap ((BitVec.ofInt 64 (a : Int) ^^^ BitVec.ofInt 64 (b : Int)).toNat : Int)
  rw [BitVec.toNat_xor, ofInt_nat a (by omega), ofInt_nat b (by omega), IntKind.wrap_i64]
  omega

theorem pick_any (w : World) (lo hi g : Nat) (l : List Int) (p : Nat) (n : Int) (h : Rd w lo hi g l p) (hp : p ≤ 1099511627776) :
    Calls Tryz.prog 57 #[.pointer (some ⟨g, 0, none⟩), .int .i64 n] w (PickPost w lo hi g l p n) := by
  have hstep := fun n hn => rd_step h n hn
  obtain ⟨A, c, hb, hl, hr, hg⟩ := h
  have c0 := hb.cell 0
  have c1 := hb.cell 1
  have f1 := hb.frozen 1
  simp at c0 c1
  by_cases hn : n < 1
  · go_enter Tryz.func57, Tryz.ntmps57
    go_wp2
    go_ret
    exact ⟨0, rfl, ⟨fun _ => rfl, fun h => absurd h (by omega)⟩, hstep _ rfl, (Chg.refl (fun b => b = g) _).setCell (p := ⟨g, 1, none⟩) (.inl rfl) _⟩
  by_cases hl0 : l.length = 0
  · have hl1 : ((l.length : Int) == 0) = true := by rw [beq_iff_eq]; omega
    have HL := Lib.hid hl0; clear hl0
    go_enter Tryz.func57, Tryz.ntmps57
    go_wp2
    go_ret
    exact ⟨0, rfl, ⟨fun _ => rfl, fun h => ⟨by omega, by omega⟩⟩, hstep _ rfl, (Chg.refl (fun b => b = g) _).setCell (p := ⟨g, 1, none⟩) (.inl rfl) _⟩
  by_cases hk : p < l.length
  · obtain ⟨x, hx⟩ := some_of_lt hk
    obtain ⟨b, off, rfl, hb1, hb2, hx2, hcell⟩ := hr.bytes_at hx
    have HX := Lib.hid hx; clear hx
    have hne : b ≠ g := by omega
    have hl1 : ((l.length : Int) == 0) = false := by rw [beq_eq_false_iff_ne]; omega
    go_enter Tryz.func57, Tryz.ntmps57
    go_wp2
    go_ret
    exact ⟨x % n, rfl, ⟨fun h => absurd h (by omega), fun h => ⟨Int.emod_nonneg _ (by omega), Int.emod_lt_of_pos _ (by omega)⟩⟩, hstep _ rfl, (Chg.refl (fun b => b = g) _).setCell (p := ⟨g, 1, none⟩) (.inl rfl) _⟩
  · have hl1 : ((l.length : Int) == 0) = false := by rw [beq_eq_false_iff_ne]; omega
    obtain ⟨x, hx⟩ := some_of_lt (l := l) (k := p % l.length) (Nat.mod_lt _ (by omega))
    obtain ⟨y, hy⟩ := some_of_lt (l := l) (k := (p * 7 + 3) % l.length) (Nat.mod_lt _ (by omega))
    obtain ⟨b, off, rfl, hb1, hb2, hx2, hcx⟩ := hr.bytes_at hx
    obtain ⟨b', off', hbo, _, _, hy2, hcy⟩ := hr.bytes_at hy
    simp only [Option.some.injEq, Addr.mk.injEq, and_true] at hbo
    obtain ⟨rfl, rfl⟩ := hbo
    clear hx hy
    have hne : b ≠ g := by omega
    have m1 : p % l.length < l.length := Nat.mod_lt _ (by omega)
    have m2 : (p * 7 + 3) % l.length < l.length := Nat.mod_lt _ (by omega)
    have q1 : 0 ≤ ((p : Int) * 7 + 3) % (l.length : Int) := Int.emod_nonneg _ (by omega)
    have q2 : ((p : Int) * 7 + 3) % (l.length : Int) < (l.length : Int) := Int.emod_lt_of_pos _ (by omega)
    have q3 : (((p : Int) * 7 + 3) % (l.length : Int)).toNat = (p * 7 + 3) % l.length := by
      have : ((p : Int) * 7 + 3) % (l.length : Int) = (((p * 7 + 3) % l.length : Nat) : Int) := rfl
      rw [this]; rfl
    have d1 : 0 ≤ (p : Int) / (l.length : Int) := Int.ediv_nonneg (by omega) (by omega)
    have d2 : (p : Int) / (l.length : Int) ≤ p := Int.ediv_le_self _ (by omega)
    go_enter Tryz.func57, Tryz.ntmps57
    go_wp2
    have x0 := xor_nonneg (x * 131 + y * 1117 + (p : Int) * 29 + (p : Int) / (l.length : Int) * 53) ((x * 131 + y * 1117 + (p : Int) * 29 + (p : Int) / (l.length : Int) * 53) / 64) (by omega) (by omega) (by omega) (by omega)
    go_quiet (fail)
    go_wp2
    go_ret
    exact ⟨_, rfl, ⟨fun h => absurd h (by omega), fun h => ⟨Int.emod_nonneg _ (by omega), Int.emod_lt_of_pos _ (by omega)⟩⟩,
      (hstep _ rfl).chg ((Chg.refl (fun _ => False) _).drewN nq) (fun _ _ h => h), ((Chg.refl (fun b => b = g) _).setCell (p := ⟨g, 1, none⟩) (.inl rfl) _).drewN nq⟩

/-- What l6Open leaves: a new reader, at the beginning. -/
def OpenPost (w : World) (lo hi : Nat) (l : List Int) (e : Ending) (w' : World) : Prop :=
  ∃ g, e = .returned (.pointer (some ⟨g, 0, none⟩)) ∧ Rd w' lo hi g (l.take 2000) 0 ∧ w.heap.size ≤ g ∧ Below w.heap.size w w'

theorem RSl.cut {α : Type} {E : Rep α} {sz : Nat} {w : World} {lo hi : Nat} {xs : List α} {A : Option Addr} {n c m : Nat} (h : RSl E sz w lo hi xs [.slice A n c]) (hm : m ≤ n) : RSl E sz w lo hi (xs.take m) [.slice A m c] := by
  obtain ⟨A', c', hcs, hc, hx, hh⟩ := h
  simp only [List.cons.injEq, Value.slice.injEq, and_true] at hcs
  obtain ⟨rfl, rfl, rfl⟩ := hcs
  have hl : (xs.take m).length = m := by rw [List.length_take]; omega
  refine ⟨A, c, by rw [hl], by omega, hx, fun hp => ?_⟩
  obtain ⟨b, off, rfl, h1, h2, hat⟩ := hh (by omega)
  refine ⟨b, off, rfl, h1, h2, fun i x hi => hat i x ?_⟩
  have := lt_of_some hi
  rw [List.getElem?_take_of_lt (by omega)] at hi
  exact hi

theorem open_any (l : List Int) (A : Option Addr) (n c : Nat) (w : World) (lo hi : Nat) (h : RSl RByte 1 w lo hi l [.slice A n c]) (hhi : hi ≤ w.heap.size) :
    Calls Tryz.prog 55 #[.slice A n c] w (OpenPost w lo hi l) := by
  obtain ⟨rfl, hc, hx⟩ := h.len_
  unfold maxLen at hx
  by_cases hl : 2000 < l.length
  · have hcut := h.cut (m := 2000) (by omega)
    have hlen : (l.take 2000).length = 2000 := by rw [List.length_take]; omega
    go_enter Tryz.func55, Tryz.ntmps55
    go_wp2
    go_ret
    refine ⟨_, rfl, ⟨A, c, ?_, by omega, ?_, hhi⟩, Nat.le_refl _, (Below.refl _ _).alloc (Nat.le_refl _) _⟩
    · rw [hlen]; exact Blk.new _ _ _
    · rw [hlen]; exact Loc.below (RSl.loc RByte.loc) hcut ((Below.refl _ _).alloc (Nat.le_refl _) _) hhi
  · have hlen : l.take 2000 = l := List.take_of_length_le (by omega)
    have HL := Lib.hid hlen; clear hlen
    go_enter Tryz.func55, Tryz.ntmps55
    go_wp2
    go_ret
    refine ⟨_, rfl, ⟨A, c, ?_, by rw [HL.out]; omega, ?_, hhi⟩, Nat.le_refl _, (Below.refl _ _).alloc (Nat.le_refl _) _⟩
    · rw [HL.out]; exact Blk.new _ _ _
    · rw [HL.out]; exact Loc.below (RSl.loc RByte.loc) h ((Below.refl _ _).alloc (Nat.le_refl _) _) hhi
end Go.Proofs.YtpdkgpbfmpekgaaGreatDoor
