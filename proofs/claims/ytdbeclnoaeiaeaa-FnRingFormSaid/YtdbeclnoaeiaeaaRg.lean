


/- Rings of keys: how they read, and the functions that only look at them. -/
import Derived.Test.YtdbeclnoaeiaeaaInts
import Derived.Test.YtdbeclnoaeiaeaaIn6
import Derived.Test.YtdbeclnoaeiaeaaRd
import Derived.Test.YtdbeclnoaeiaeaaPast
namespace Go.Proofs.Ytdbeclnoaeiaeaa
open Go.RowKit

structure Gr where
  m : Int
  f : Int
  t : Int
structure Rg where
  keys : List Int
  grs : List Gr
def RGr : Rep Gr := fun _ _ _ x cs => cs = [.int .i64 x.m, .int .i64 x.f, .int .i64 x.t] ∧ In64 x.m ∧ In64 x.f ∧ In64 x.t
theorem RGr.loc : Loc RGr := ⟨fun _ _ _ h => h⟩
theorem RSl.grs_at {w : World} {lo hi : Nat} {xs : List Gr} {A : Option Addr} {n c : Nat} (h : RSl RGr 3 w lo hi xs [.slice A n c]) {k : Nat} {x : Gr} (hk : xs[k]? = some x) :
    ∃ b off, A = some ⟨b, off, none⟩ ∧ lo ≤ b ∧ b < hi ∧ (In64 x.m ∧ In64 x.f ∧ In64 x.t) ∧ w.cell? ⟨b, off + k * 3, none⟩ = some (.int .i64 x.m) ∧ w.cell? ⟨b, off + k * 3 + 1, none⟩ = some (.int .i64 x.f) ∧ w.cell? ⟨b, off + k * 3 + 2, none⟩ = some (.int .i64 x.t) := by
  obtain ⟨b, off, es, rfl, h1, h2, hl, ⟨rfl, h64⟩, hc⟩ := h.at_ hk
  exact ⟨b, off, rfl, h1, h2, h64, by simpa using hc 0 _ rfl, hc 1 _ rfl, hc 2 _ rfl⟩

/-- A grant is ok where there are n epochs. -/
def grP (n : Nat) (g : Gr) : Prop := 1 ≤ g.m ∧ g.m ≤ 4 ∧ 1 ≤ g.f ∧ g.f ≤ n ∧ (g.t = 0 ∨ (g.f ≤ g.t ∧ g.t ≤ n))
def keysP (xs : List Int) : Prop := (∀ x ∈ xs, 1 ≤ x ∧ x ≤ 99) ∧ xs.Nodup
def grsP (n : Nat) (gs : List Gr) : Prop := (∀ g ∈ gs, grP n g) ∧ gs.Pairwise fun a b => a.m < b.m
def ringP (r : Rg) : Prop := keysP r.keys ∧ grsP r.keys.length r.grs ∧ 1 ≤ r.keys.length ∧ r.keys.length ≤ 9
theorem keysP_nil : keysP [] := ⟨fun x h => (by simp at h), List.nodup_nil⟩
theorem keysP_snoc {xs : List Int} {x : Int} : keysP (xs ++ [x]) ↔ keysP xs ∧ (1 ≤ x ∧ x ≤ 99) ∧ x ∉ xs := by
  unfold keysP
  constructor
  · intro ⟨h1, h2⟩
    rw [List.nodup_append] at h2
    exact ⟨⟨fun y hy => h1 y (by simp [hy]), h2.1⟩, h1 x (by simp), fun hx => h2.2.2 x hx x (by simp) rfl⟩
  · intro ⟨⟨h1, h2⟩, h3, h4⟩
    refine ⟨fun y hy => ?_, ?_⟩
    · rcases List.mem_append.1 hy with hy | hy
      · exact h1 y hy
      · rw [List.mem_singleton.1 hy]; exact h3
    · rw [List.nodup_append]
      refine ⟨h2, by simp, fun a ha b hb => ?_⟩
      rw [List.mem_singleton.1 hb]
      exact fun e => h4 (e ▸ ha)
theorem keysP_pre {xs ys : List Int} (h : keysP (xs ++ ys)) : keysP xs := ⟨fun x hx => h.1 x (by simp [hx]), (List.nodup_append.1 h.2).1⟩
theorem keysP_take {xs : List Int} (h : keysP xs) (k : Nat) : keysP (xs.take k) := by
  have := h
  rw [← List.take_append_drop k xs] at this
  exact keysP_pre this
theorem grsP_nil (n : Nat) : grsP n [] := ⟨fun x h => (by simp at h), List.Pairwise.nil⟩
theorem grsP_pre {n : Nat} {xs ys : List Gr} (h : grsP n (xs ++ ys)) : grsP n xs := ⟨fun x hx => h.1 x (by simp [hx]), (List.pairwise_append.1 h.2).1⟩
theorem grsP_take {n : Nat} {xs : List Gr} (h : grsP n xs) (k : Nat) : grsP n (xs.take k) := by
  have := h
  rw [← List.take_append_drop k xs] at this
  exact grsP_pre this
theorem grsP_snoc {n : Nat} {xs : List Gr} {x : Gr} : grsP n (xs ++ [x]) ↔ grsP n xs ∧ grP n x ∧ ∀ y ∈ xs, y.m < x.m := by
  unfold grsP
  rw [List.pairwise_append]
  constructor
  · intro ⟨h1, h2, _, h3⟩
    exact ⟨⟨fun y hy => h1 y (by simp [hy]), h2⟩, h1 x (by simp), fun y hy => h3 y hy x (by simp)⟩
  · intro ⟨⟨h1, h2⟩, h3, h4⟩
    refine ⟨fun y hy => ?_, h2, by simp, fun a ha b hb => ?_⟩
    · rcases List.mem_append.1 hy with hy | hy
      · exact h1 y hy
      · rw [List.mem_singleton.1 hy]; exact h3
    · rw [List.mem_singleton.1 hb]; exact h4 a ha
/-- The last one is the greatest. -/
theorem grs_last {n : Nat} {xs : List Gr} (h : grsP n xs) {k : Nat} {g : Gr} (hg : xs[k]? = some g) : ∀ y ∈ xs.take (k + 1), y.m ≤ g.m := by
  intro y hy
  obtain ⟨i, hi⟩ := List.mem_iff_getElem?.1 hy
  have hlt := lt_of_some hi
  rw [List.length_take] at hlt
  rw [List.getElem?_take_of_lt (by omega)] at hi
  rcases Nat.lt_or_ge i k with hik | hik
  · have h1 := List.pairwise_iff_getElem.1 h.2 i k (lt_of_some hi) (lt_of_some hg) hik
    have e1 : xs[i]'(lt_of_some hi) = y := by rw [List.getElem?_eq_getElem (lt_of_some hi)] at hi; simpa using hi
    have e2 : xs[k]'(lt_of_some hg) = g := by rw [List.getElem?_eq_getElem (lt_of_some hg)] at hg; simpa using hg
    rw [e1, e2] at h1
    omega
  · obtain rfl : i = k := by omega
    rw [hi] at hg
    simp at hg
    rw [hg]; exact Int.le_refl _

set_option maxHeartbeats 400000 in
theorem l33Grant_any (g : Gr) (n : Nat) (w : World) (h : In64 g.t) (b : Bool) (hb : b = true ↔ grP n g) :
    Calls Try.prog 49 #[.agg #[.int .i64 g.m, .int .i64 g.f, .int .i64 g.t], .int .i64 n] w fun e w' => e = .returned (.bool b) ∧ Below w.heap.size w w' := by
  by_cases h1 : 1 ≤ g.m ∧ g.m ≤ 4
  · by_cases h2 : 1 ≤ g.f ∧ g.f ≤ n
    · by_cases h3 : g.t = 0
      · have t1 : (g.t == 0) = true := beq_iff_eq.2 h3
        go_enter Try.func49, Try.ntmps49
        go_wp2_with fail
        refine (l6In_yes _ _ _ h1.1 h1.2 _).mono ?_
        rintro e w1 ⟨rfl, rfl⟩
        go_wp2_with fail
        refine (l6In_yes _ _ _ h2.1 h2.2 _).mono ?_
        rintro e w1 ⟨rfl, rfl⟩
        go_wp2_with fail
        go_ret
        exact ⟨ret_bool (by rw [eq_comm, hb]; exact ⟨h1.1, h1.2, h2.1, h2.2, .inl h3⟩), below_alloc w _⟩
      · have t1 : (g.t == 0) = false := beq_eq_false_iff_ne.2 h3
        go_enter Try.func49, Try.ntmps49
        go_wp2_with fail
        refine (l6In_yes _ _ _ h1.1 h1.2 _).mono ?_
        rintro e w1 ⟨rfl, rfl⟩
        go_wp2_with fail
        refine (l6In_yes _ _ _ h2.1 h2.2 _).mono ?_
        rintro e w1 ⟨rfl, rfl⟩
        go_wp2_with fail
        refine (l6In_any _ _ _ _).mono ?_
        rintro e w1 ⟨rfl, rfl⟩
        go_wp2_with fail
        go_ret
        exact ⟨ret_bool (by rw [Bool.eq_iff_iff, hb]; simp [grP, h1, h2, h3]), below_alloc w _⟩
    · have hf : b = false := by rw [← Bool.not_eq_true, hb]; exact fun h => h2 ⟨h.2.2.1, h.2.2.2.1⟩
      subst hf
      clear hb
      have H2 := Lib.hid h2; clear h2
      go_enter Try.func49, Try.ntmps49
      go_wp2_with fail
      refine (l6In_yes _ _ _ h1.1 h1.2 _).mono ?_
      rintro e w1 ⟨rfl, rfl⟩
      go_wp2_with fail
      refine (l6In_no _ _ _ H2.out _).mono ?_
      rintro e w1 ⟨rfl, rfl⟩
      go_wp2_with fail
      go_ret
      exact ⟨rfl, below_alloc w _⟩
  · have hf : b = false := by rw [← Bool.not_eq_true, hb]; exact fun h => h1 ⟨h.1, h.2.1⟩
    subst hf
    clear hb
    have H1 := Lib.hid h1; clear h1
    go_enter Try.func49, Try.ntmps49
    go_wp2_with fail
    refine (l6In_no _ _ _ H1.out _).mono ?_
    rintro e w1 ⟨rfl, rfl⟩
    go_wp2_with fail
    go_ret
    exact ⟨rfl, below_alloc w _⟩

theorem l2Key_any (x : Int) (w : World) (b : Bool) (hb : b = true ↔ 1 ≤ x ∧ x ≤ 99) : Calls Try.prog 47 #[.int .i64 x] w fun e w' => e = .returned (.bool b) ∧ w = w' := by
  go_enter Try.func47, Try.ntmps47
  go_wp2_with fail
  refine (l6In_any _ _ _ _).mono ?_
  rintro e w1 ⟨rfl, rfl⟩
  go_wp2_with fail
  go_ret
  exact ⟨ret_bool (by rw [Bool.eq_iff_iff, hb]; simp), rfl⟩
theorem keyOk_any (x : Int) (w : World) (b : Bool) (hb : b = true ↔ 1 ≤ x ∧ x ≤ 99) : Calls Try.prog 63 #[.int .i64 x] w fun e w' => e = .returned (.bool b) ∧ w = w' := by
  have HB := Lib.hid hb; clear hb
  by_cases h : 1 ≤ x
  · go_enter Try.func63, Try.ntmps63
    go_wp2_with fail
    go_ret
    exact ⟨ret_bool (by rw [Bool.eq_iff_iff, HB.out]; simp [h]), rfl⟩
  · go_enter Try.func63, Try.ntmps63
    go_wp2_with fail
    go_ret
    exact ⟨ret_bool (by rw [Bool.eq_iff_iff, HB.out]; simp [h]; omega), rfl⟩
theorem machineOk_any (x : Int) (w : World) (b : Bool) (hb : b = true ↔ 1 ≤ x ∧ x ≤ 4) : Calls Try.prog 53 #[.int .i64 x] w fun e w' => e = .returned (.bool b) ∧ w = w' := by
  have HB := Lib.hid hb; clear hb
  by_cases h : 1 ≤ x
  · go_enter Try.func53, Try.ntmps53
    go_wp2_with fail
    go_ret
    exact ⟨ret_bool (by rw [Bool.eq_iff_iff, HB.out]; simp [h]), rfl⟩
  · go_enter Try.func53, Try.ntmps53
    go_wp2_with fail
    go_ret
    exact ⟨ret_bool (by rw [Bool.eq_iff_iff, HB.out]; simp [h]; omega), rfl⟩
theorem epochIn_any (n : Nat) (x : Int) (A : Option Addr) (c : Nat) (vb : Value) (w : World) (b : Bool) (hb : b = true ↔ 1 ≤ x ∧ x ≤ n) :
    Calls Try.prog 54 #[.agg #[.slice A n c, vb], .int .i64 x] w fun e w' => e = .returned (.bool b) ∧ Below w.heap.size w w' := by
  have HB := Lib.hid hb; clear hb
  by_cases h : 1 ≤ x
  · go_enter Try.func54, Try.ntmps54
    go_wp2_with fail
    go_ret
    exact ⟨ret_bool (by rw [Bool.eq_iff_iff, HB.out]; simp [h]), below_alloc _ _⟩
  · go_enter Try.func54, Try.ntmps54
    go_wp2_with fail
    go_ret
    exact ⟨ret_bool (by rw [Bool.eq_iff_iff, HB.out]; simp [h]; omega), below_alloc _ _⟩
theorem l33At_any (r : Rg) (n : Int) (va vb : Value) (w : World) (lo hi : Nat) (hhi : hi ≤ w.heap.size) (h : RSl RGr 3 w lo hi r.grs [vb]) :
    Calls Try.prog 70 #[.agg #[va, vb], .int .i64 n] w fun e w' => e = .returned (.int .i64 (idxOf (fun g => decide (g.m = n)) r.grs)) ∧ Below w.heap.size w w' := by
  obtain ⟨A, c, rfl⟩ := h.form
  obtain ⟨_, hc, hx⟩ := h.len_
  unfold maxLen at hx
  have hbw := below_alloc w (.cells #[va, .slice A r.grs.length c] 30)
  have g1 := sl_keep RGr.loc h hbw hhi
  go_enter Try.func70, Try.ntmps70
  go_wp2_with fail
  go_loop [5] (fun i => ∃ k : Nat, k ≤ r.grs.length ∧ i = .int .i64 k ∧ ∀ y ∈ r.grs.take k, decide (y.m = n) = false) (fun i => r.grs.length - (intOf i).toNat)
  case atStart => exact ⟨0, Nat.zero_le _, rfl, by simp⟩
  case round =>
    obtain ⟨k, hk, rfl, hn⟩ := hrel
    have HN := Lib.hid hn; clear hn
    by_cases hlt : k < r.grs.length
    · obtain ⟨x, hxk⟩ := some_of_lt hlt
      obtain ⟨b, off, rfl, _, _, _, hcell, _, _⟩ := g1.grs_at hxk
      have HX := Lib.hid hxk; clear hxk
      by_cases hp : x.m = n
      · have t1 : (x.m == n) = true := beq_iff_eq.2 hp
        have HP := Lib.hid hp; clear hp
        go_wp2_with fail
        go_ret
        exact ⟨ret_int (idx_hit HX.out (by simp [HP.out]) HN.out).symm, hbw⟩
      · have t1 : (x.m == n) = false := beq_eq_false_iff_ne.2 hp
        have HP := Lib.hid hp; clear hp
        go_wp2_with fail
        go_round
        case rel =>
          refine ⟨k + 1, by omega, by go_num, fun y hy => ?_⟩
          rw [take_succ HX.out, List.mem_append] at hy
          rcases hy with hy | hy
          · exact HN.out y hy
          · rw [List.mem_singleton.1 hy]; simp [HP.out]
        case measure => simp [intOf]; omega
    · obtain rfl : k = r.grs.length := by omega
      go_wp2_with fail
      go_ret
      exact ⟨ret_int (by have := HN.out; rw [List.take_length] at this; exact (idx_none this).symm), hbw⟩

theorem sl_drewN {α : Type} {E : Rep α} (hE : Loc E) {sz : Nat} {w : World} {lo hi : Nat} {xs : List α} {cs : List Value} (h : RSl E sz w lo hi xs cs) (n : Nat) : RSl E sz (w.drewN n) lo hi xs cs :=
  (RSl.loc hE).go (w := w) (w' := w.drewN n) (fun _ _ _ => rfl) (Nat.le_refl _) (Nat.le_refl _) h
theorem quiet_same {P : Program} {f : FuncId} {args : Array Value} {w : World} {n : Nat} {v : Value}
    (h : Calls P f args (w.drewN n) fun e w' => e = .returned v ∧ w.drewN n = w') : Calls P f args (w.drewN n) fun e w'' => e = .returned v ∧ ∃ m, w'' = w.drewN m :=
  h.mono fun _ _ ⟨he, hm⟩ => ⟨he, n, hm.symm⟩
theorem below_drewN' {B : Nat} {a w : World} (h : Below B a w) (n : Nat) : Below B a (w.drewN n) := ⟨h.os, h.tape, h.output, h.size, h.block⟩
theorem keys_all {xs : List Int} {k : Nat} {x : Int} (hk : xs[k]? = some x) : keysP (xs.take (k + 1)) ↔ keysP (xs.take k) ∧ (1 ≤ x ∧ x ≤ 99) ∧ x ∉ xs.take k := by
  rw [take_succ hk]; exact keysP_snoc
theorem getElem_of_some' {α : Type} {l : List α} {k : Nat} {x : α} (h : l[k]? = some x) : l[k]'(lt_of_some h) = x := by
  have := h
  rw [List.getElem?_eq_getElem (lt_of_some h)] at this
  simpa using this
theorem grs_all {n : Nat} {xs : List Gr} {k : Nat} {x : Gr} (hk : xs[k]? = some x) : grsP n (xs.take (k + 1)) ↔ grsP n (xs.take k) ∧ grP n x ∧ ∀ y ∈ xs.take k, y.m < x.m := by
  rw [take_succ hk]; exact grsP_snoc
theorem grs_no {n : Nat} {xs : List Gr} {k : Nat} {x : Gr} (hk : xs[k]? = some x) (h : ¬ grP n x) : ¬ grsP n xs := fun hp => h (hp.1 x (List.mem_of_getElem? hk))
theorem grs_no2 {n : Nat} {xs : List Gr} {k : Nat} {y x : Gr} (hy : xs[k]? = some y) (hk : xs[k + 1]? = some x) (h : ¬ y.m < x.m) : ¬ grsP n xs := fun hp => h (by
  have h1 := List.pairwise_iff_getElem.1 hp.2 k (k + 1) (lt_of_some hy) (lt_of_some hk) (by omega)
  rwa [getElem_of_some' hy, getElem_of_some' hk] at h1)
theorem grs_yes0 {n : Nat} {xs : List Gr} {x : Gr} (hk : xs[0]? = some x) (h : grP n x) : grsP n (xs.take 1) := (grs_all hk).2 ⟨grsP_nil n, h, fun y hy => by simp at hy⟩
theorem grs_yes {n : Nat} {xs : List Gr} {k : Nat} {y x : Gr} (hp : grsP n (xs.take (k + 1))) (hy : xs[k]? = some y) (hk : xs[k + 1]? = some x) (h : grP n x) (hlt : y.m < x.m) : grsP n (xs.take (k + 1 + 1)) := by
  refine (grs_all hk).2 ⟨hp, h, fun z hz => ?_⟩
  have h1 := grs_last (k := k) (g := y) hp (by rw [List.getElem?_take_of_lt (by omega)]; exact hy) z (by rw [List.take_take, Nat.min_self]; exact hz)
  omega
theorem keys_no {xs : List Int} {k : Nat} {x : Int} (hk : xs[k]? = some x) (h : ¬ ((1 ≤ x ∧ x ≤ 99) ∧ x ∉ xs.take k)) : ¬ keysP xs := fun hp => h ((keys_all hk).1 (keysP_take hp (k + 1))).2
set_option maxHeartbeats 1000000 in
theorem specRingOk_any (r : Rg) (va vb : Value) (w : World) (lo hi : Nat) (hhi : hi ≤ w.heap.size) (ha : RSl RInt 1 w lo hi r.keys [va]) (h : RSl RGr 3 w lo hi r.grs [vb]) (b : Bool) (hb : b = true ↔ ringP r) :
    Calls Try.prog 20 #[.agg #[va, vb]] w fun e w' => e = .returned (.bool b) ∧ Below w.heap.size w w' := by
  have HB := Lib.hid hb; clear hb
  obtain ⟨A, c, rfl⟩ := ha.form
  obtain ⟨B, d, rfl⟩ := h.form
  obtain ⟨_, hc, hx⟩ := ha.len_
  obtain ⟨_, hd, hy⟩ := h.len_
  unfold maxLen at hx hy
  have hbw := below_alloc w (.cells #[.slice A r.keys.length c, .slice B r.grs.length d] 30)
  have f1 := sl_keep RInt.loc ha hbw hhi
  have g1 := sl_keep RGr.loc h hbw hhi
  have c0 := new_cell w #[.slice A r.keys.length c, .slice B r.grs.length d] 30 0 rfl
  have c1 := new_cell w #[.slice A r.keys.length c, .slice B r.grs.length d] 30 1 rfl
  have hhi0 : hi ≤ (w.alloc (.cells #[.slice A r.keys.length c, .slice B r.grs.length d] 30)).heap.size := Nat.le_trans hhi hbw.size
  go_enter Try.func20, Try.ntmps20
  go_wp2_with fail
  generalize w.alloc (.cells #[.slice A r.keys.length c, .slice B r.grs.length d] 30) = w0 at *
  go_loopw [3] (fun i wr => ∃ k : Nat, k ≤ r.keys.length ∧ i = .int .i64 k ∧ keysP (r.keys.take k) ∧ Below w0.heap.size w0 wr) (fun i _ => r.keys.length - (intOf i).toNat)
  case atStart => exact ⟨0, Nat.zero_le _, rfl, keysP_nil, Below.refl _ _⟩
  case round =>
    obtain ⟨k, hk, rfl, hn, hbr⟩ := hrel
    have HN := Lib.hid hn; clear hn
    have f2 := sl_keep RInt.loc f1 hbr hhi0
    have k0 := cell_keep hbr c0
    have k1 := cell_keep hbr c1
    by_cases hlt : k < r.keys.length
    · obtain ⟨x, hxk⟩ := some_of_lt hlt
      obtain ⟨b1, off, rfl, _, _, _, hcell⟩ := f2.ints_at hxk
      have HX := Lib.hid hxk; clear hxk
      have hcut := f2.cut (m := k) (by omega)
      by_cases p1 : 1 ≤ x ∧ x ≤ 99
      · by_cases p2 : x ∈ r.keys.take k
        · have hf : b = false := by rw [← Bool.not_eq_true, HB.out]; exact fun h => keys_no HX.out (fun h2 => h2.2 p2) h.1
          have HF := Lib.hid hf; clear hf
          have t1 : decide (x ∈ r.keys.take k) = true := decide_eq_true p2
          have H2 := Lib.hid p2; clear p2
          go_wp2_with fail
          go_quiet (first
            | (go_at_call 47; refine quiet_same (l2Key_any x _ true ?_); simp [p1]; done)
            | (go_at_call 48; refine quiet_same (l3Has_any (r.keys.take k) x _ _ _ _ lo hi ?_); exact sl_drewN RInt.loc hcut _))
          go_wp2_with fail
          go_ret
          exact ⟨ret_bool HF.out.symm, hbw.trans (below_drewN' (hbr.mono hbw.size) nq)⟩
        · have hnext : keysP (r.keys.take (k + 1)) := (keys_all HX.out).2 ⟨HN.out, p1, p2⟩
          have HK := Lib.hid hnext; clear hnext
          have t1 : decide (x ∈ r.keys.take k) = false := decide_eq_false p2
          have H2 := Lib.hid p2; clear p2
          go_wp2_with fail
          go_quiet (first
            | (go_at_call 47; refine quiet_same (l2Key_any x _ true ?_); simp [p1]; done)
            | (go_at_call 48; refine quiet_same (l3Has_any (r.keys.take k) x _ _ _ _ lo hi ?_); exact sl_drewN RInt.loc hcut _))
          go_wp2_with fail
          go_roundw
          case rel => first | exact ⟨k + 1, by omega, by go_num, HK.out, below_drewN' hbr nq⟩ | ((repeat apply Exists.intro); refine ⟨?_, rfl⟩; exact ⟨k + 1, by omega, by go_num, HK.out, below_drewN' hbr nq⟩)
          case measure => simp [intOf]; omega
      · have hf : b = false := by rw [← Bool.not_eq_true, HB.out]; exact fun h => keys_no HX.out (fun h2 => p1 h2.1) h.1
        have HF := Lib.hid hf; clear hf
        have H1 := Lib.hid p1; clear p1
        go_wp2_with fail
        go_quiet (first
          | (go_at_call 47; refine quiet_same (l2Key_any x _ false ?_); simp only [Bool.false_eq_true, false_iff]; exact H1.out))
        go_wp2_with fail
        go_ret
        exact ⟨ret_bool HF.out.symm, hbw.trans (below_drewN' (hbr.mono hbw.size) nq)⟩
    · obtain rfl : k = r.keys.length := by omega
      have hkeys : keysP r.keys := by have := HN.out; rwa [List.take_length] at this
      have HKS := Lib.hid hkeys; clear hkeys HN
      clear f2
      go_wp2_with fail
      go_loopw [4] (fun i wr => ∃ k : Nat, k ≤ r.grs.length ∧ i = .int .i64 k ∧ grsP r.keys.length (r.grs.take k) ∧ Below w0.heap.size w0 wr) (fun i _ => r.grs.length - (intOf i).toNat)
      case atStart => exact ⟨0, Nat.zero_le _, rfl, grsP_nil _, hbr⟩
      case round =>
        clear hbr k0 k1
        obtain ⟨k, hk, rfl, hn, hbr⟩ := hrel
        have HN := Lib.hid hn; clear hn
        have f2 := sl_keep RInt.loc f1 hbr hhi0
        have g2 := sl_keep RGr.loc g1 hbr hhi0
        have k0 := cell_keep hbr c0
        have k1 := cell_keep hbr c1
        by_cases hlt : k < r.grs.length
        · obtain ⟨x, hxk⟩ := some_of_lt hlt
          obtain ⟨b1, off, rfl, _, _, h64, hcell, hcell1, hcell2⟩ := g2.grs_at hxk
          have HX := Lib.hid hxk; clear hxk
          by_cases p1 : grP r.keys.length x
          · by_cases p0 : k = 0
            · subst p0
              have hnext := grs_yes0 HX.out p1
              have HK := Lib.hid hnext; clear hnext
              have H1 := Lib.hid p1; clear p1
              simp only [Nat.zero_mul, Nat.add_zero] at hcell hcell1 hcell2
              go_wp2_with fail
              have past0 := past_cell k0
              have past1 := past_cell k1
              have past2 := past_cell hcell
              have past3 := past_cell hcell1
              have past4 := past_cell hcell2
              refine region_past (by kernel_rfl) (by kernel_rfl) ?_
              repeat (go_big_quiet_step (first | (go_at_call 49; refine past_call (l33Grant_any x r.keys.length _ h64.2.2 true ?_); (simp only [true_iff]; exact H1.out))))
              refine wpQuiet_nil ?_
              intro wq hw1
              have hq := past_out hw1
              clear hw1 past0 past1 past2 past3 past4
              go_wp2_with fail
              go_roundw
              case rel => first | exact ⟨1, by omega, by go_num, HK.out, hbr.trans (hq.mono hbr.size)⟩ | ((repeat apply Exists.intro); refine ⟨?_, rfl⟩; exact ⟨1, by omega, by go_num, HK.out, hbr.trans (hq.mono hbr.size)⟩)
              case measure => simp [intOf]; omega
            · obtain ⟨j, rfl⟩ : ∃ j, k = j + 1 := ⟨k - 1, by omega⟩
              obtain ⟨y, hyk⟩ := some_of_lt (l := r.grs) (k := j) (by omega)
              obtain ⟨b2, off2, hbo, _, _, _, hcell3, _, _⟩ := g2.grs_at hyk
              simp only [Option.some.injEq, Addr.mk.injEq, and_true] at hbo
              obtain ⟨rfl, rfl⟩ := hbo
              have HY := Lib.hid hyk; clear hyk
              by_cases p2 : y.m < x.m
              · have hnext := grs_yes HN.out HY.out HX.out p1 p2
                have HK := Lib.hid hnext; clear hnext
                have H1 := Lib.hid p1; clear p1
                go_wp2_with fail
                have past0 := past_cell k0
                have past1 := past_cell k1
                have past2 := past_cell hcell
                have past3 := past_cell hcell1
                have past4 := past_cell hcell2
                have past5 := past_cell hcell3
                refine region_past (by kernel_rfl) (by kernel_rfl) ?_
                repeat (go_big_quiet_step (first | (go_at_call 49; refine past_call (l33Grant_any x r.keys.length _ h64.2.2 true ?_); (simp only [true_iff]; exact H1.out))))
                refine wpQuiet_nil ?_
                intro wq hw1
                have hq := past_out hw1
                clear hw1 past0 past1 past2 past3 past4 past5
                go_wp2_with fail
                go_roundw
                case rel => first | exact ⟨j + 1 + 1, by omega, by go_num, HK.out, hbr.trans (hq.mono hbr.size)⟩ | ((repeat apply Exists.intro); refine ⟨?_, rfl⟩; exact ⟨j + 1 + 1, by omega, by go_num, HK.out, hbr.trans (hq.mono hbr.size)⟩)
                case measure => simp [intOf]; omega
              · have hf : b = false := by rw [← Bool.not_eq_true, HB.out]; exact fun h => grs_no2 HY.out HX.out p2 h.2.1
                have HF := Lib.hid hf; clear hf
                have H1 := Lib.hid p1; clear p1
                go_wp2_with fail
                have past0 := past_cell k0
                have past1 := past_cell k1
                have past2 := past_cell hcell
                have past3 := past_cell hcell1
                have past4 := past_cell hcell2
                have past5 := past_cell hcell3
                refine region_past (by kernel_rfl) (by kernel_rfl) ?_
                repeat (go_big_quiet_step (first | (go_at_call 49; refine past_call (l33Grant_any x r.keys.length _ h64.2.2 true ?_); (simp only [true_iff]; exact H1.out))))
                refine wpQuiet_nil ?_
                intro wq hw1
                have hq := past_out hw1
                clear hw1 past0 past1 past2 past3 past4 past5
                go_wp2_with fail
                go_ret
                exact ⟨ret_bool HF.out.symm, hbw.trans ((hbr.trans (hq.mono hbr.size)).mono hbw.size)⟩
          · have hf : b = false := by rw [← Bool.not_eq_true, HB.out]; exact fun h => grs_no HX.out p1 h.2.1
            have HF := Lib.hid hf; clear hf
            have H1 := Lib.hid p1; clear p1
            go_wp2_with fail
            have past0 := past_cell k0
            have past1 := past_cell k1
            have past2 := past_cell hcell
            have past3 := past_cell hcell1
            have past4 := past_cell hcell2
            refine region_past (by kernel_rfl) (by kernel_rfl) ?_
            repeat (go_big_quiet_step (first | (go_at_call 49; refine past_call (l33Grant_any x r.keys.length _ h64.2.2 false ?_); (simp only [Bool.false_eq_true, false_iff]; exact H1.out))))
            refine wpQuiet_nil ?_
            intro wq hw1
            have hq := past_out hw1
            clear hw1 past0 past1 past2 past3 past4
            go_wp2_with fail
            go_ret
            exact ⟨ret_bool HF.out.symm, hbw.trans ((hbr.trans (hq.mono hbr.size)).mono hbw.size)⟩
        · obtain rfl : k = r.grs.length := by omega
          have hgrs : grsP r.keys.length r.grs := by have := HN.out; rwa [List.take_length] at this
          have HGS := Lib.hid hgrs; clear hgrs HN
          go_wp2_with fail
          refine (l6In_any _ _ _ _).mono ?_
          rintro e w1 ⟨rfl, rfl⟩
          go_wp2_with fail
          go_ret
          exact ⟨ret_bool (by rw [Bool.eq_iff_iff, HB.out]; simp [ringP, HKS.out, HGS.out]; omega), hbw.trans (hbr.mono hbw.size)⟩
end Go.Proofs.Ytdbeclnoaeiaeaa
