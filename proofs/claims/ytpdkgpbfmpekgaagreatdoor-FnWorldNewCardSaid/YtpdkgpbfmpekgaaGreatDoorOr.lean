


/- Rows of their own whose elements own what they lead to: no block twice. -/
import Derived.Test.YtpdkgpbfmpekgaaGreatDoorTr
import Derived.Test.YtpdkgpbfmpekgaaGreatDoorMk
namespace Go.Proofs.YtpdkgpbfmpekgaaGreatDoor
open Go.RowKit

section
variable {α : Type} {E : Rep α} {T : List TypeId} {sz : Nat} {e : TypeId}
/-- Elements in cells, each in blocks of its own, one behind the other. -/
def Els (E : Rep α) (sz : Nat) (w : World) (lo hi : Nat) (xs : List α) (cells : List Value) : Prop :=
  cells.length = xs.length * sz ∧ (∀ u ∈ cells, u.oneCell' = true) ∧ ∃ m : Nat → Nat, (∀ i, m i ≤ m (i + 1)) ∧ lo ≤ m 0 ∧ m xs.length ≤ hi ∧
    ∀ i x, xs[i]? = some x → ∃ es : List Value, es.length = sz ∧ E w (m i) (m (i + 1)) x es ∧ ∀ j u, es[j]? = some u → cells[i * sz + j]? = some u
theorem mono_of {m : Nat → Nat} (h : ∀ i, m i ≤ m (i + 1)) {i : Nat} : ∀ {j : Nat}, i ≤ j → m i ≤ m j
  | 0, hj => by obtain rfl : i = 0 := by omega
                exact Nat.le_refl _
  | j + 1, hj => by
    by_cases he : i = j + 1
    · rw [he]; exact Nat.le_refl _
    · exact Nat.le_trans (mono_of h (show i ≤ j by omega)) (h j)
theorem Els.nil {w : World} {lo hi : Nat} (h : lo ≤ hi) : Els E sz w lo hi [] [] := ⟨by simp, fun _ h => (by cases h), fun _ => lo, fun _ => Nat.le_refl _, Nat.le_refl _, h, fun i x h => by simp at h⟩
theorem Els.le {w : World} {lo hi : Nat} {xs : List α} {cells : List Value} (h : Els E sz w lo hi xs cells) : lo ≤ hi := by
  obtain ⟨_, _, m, h1, h2, h3, _⟩ := h
  exact Nat.le_trans h2 (Nat.le_trans (mono_of h1 (Nat.zero_le _)) h3)
theorem Els.go (hE : TLoc E T) {w w' : World} {lo hi lo' hi' : Nat} {xs : List α} {cells : List Value} (h : Els E sz w lo hi xs cells) (hs : ∀ b, lo ≤ b → b < hi → Typed w T b → w'.heap[b]? = w.heap[b]?) (h1 : lo' ≤ lo) (h2 : hi ≤ hi') : Els E sz w' lo' hi' xs cells := by
  obtain ⟨a, b, m, m1, m2, m3, m4⟩ := h
  refine ⟨a, b, m, m1, by omega, by omega, fun i x hi => ?_⟩
  obtain ⟨es, e1, e2, e3⟩ := m4 i x hi
  have hlt := lt_of_some hi
  have l1 := mono_of m1 (Nat.zero_le i)
  have l2 := mono_of m1 (show i + 1 ≤ xs.length by omega)
  exact ⟨es, e1, hE.go (fun b b1 b2 ht => hs b (by omega) (by omega) ht) (Nat.le_refl _) (Nat.le_refl _) e2, e3⟩
theorem Els.snoc {w : World} {lo mid hi : Nat} {xs : List α} {cells : List Value} (h : Els E sz w lo mid xs cells) {y : α} {es : List Value} (hl : es.length = sz) (h1 : ∀ u ∈ es, u.oneCell' = true) (hm : mid ≤ hi) (hy : E w mid hi y es) (hw : ∀ a b, a ≤ mid → E w mid hi y es → E w a b y es → True := fun _ _ _ _ _ => trivial) : Loc E → Els E sz w lo hi (xs ++ [y]) (cells ++ es) := by
  intro hloc
  clear hw
  obtain ⟨a, b, m, m1, m2, m3, m4⟩ := h
  refine ⟨by rw [List.length_append, List.length_append, a, hl, List.length_singleton, Nat.add_mul, Nat.one_mul], fun u hu => ?_, fun i => if i ≤ xs.length then m i else hi, fun i => ?_, ?_, ?_, fun i x hi' => ?_⟩
  · rcases List.mem_append.1 hu with hu | hu
    · exact b u hu
    · exact h1 u hu
  · show (if i ≤ xs.length then m i else hi) ≤ (if i + 1 ≤ xs.length then m (i + 1) else hi)
    by_cases hi1 : i + 1 ≤ xs.length
    · rw [if_pos hi1, if_pos (by omega)]; exact m1 i
    · rw [if_neg hi1]
      by_cases hi2 : i ≤ xs.length
      · rw [if_pos hi2]
        have := mono_of m1 hi2
        omega
      · rw [if_neg hi2]; exact Nat.le_refl _
  · show lo ≤ (if 0 ≤ xs.length then m 0 else hi)
    rw [if_pos (Nat.zero_le _)]; exact m2
  · show (if (xs ++ [y]).length ≤ xs.length then _ else hi) ≤ hi
    rw [if_neg (by rw [List.length_append, List.length_singleton]; omega)]; exact Nat.le_refl _
  · rcases Nat.lt_or_ge i xs.length with hlt | hge
    · rw [List.getElem?_append_left hlt] at hi'
      obtain ⟨zs, z1, z2, z3⟩ := m4 i x hi'
      refine ⟨zs, z1, ?_, fun j u hu => ?_⟩
      · show E w (if i ≤ xs.length then m i else hi) (if i + 1 ≤ xs.length then m (i + 1) else hi) x zs
        rw [if_pos (by omega), if_pos (by omega)]; exact z2
      · have hj := lt_of_some hu
        have hb : (i + 1) * sz ≤ xs.length * sz := Nat.mul_le_mul_right _ hlt
        rw [Nat.succ_mul] at hb
        rw [List.getElem?_append_left (by omega)]
        exact z3 j u hu
    · rw [List.getElem?_append_right hge] at hi'
      have h0 : i - xs.length = 0 := by have := lt_of_some hi'; simp at this; omega
      rw [h0] at hi'
      simp at hi'
      subst hi'
      have hix : i = xs.length := by omega
      refine ⟨es, hl, ?_, fun j u hu => ?_⟩
      · show E w (if i ≤ xs.length then m i else hi) (if i + 1 ≤ xs.length then m (i + 1) else hi) y es
        rw [if_pos (by omega), if_neg (by omega), hix]
        exact hloc.wide hy m3 (Nat.le_refl _)
      · rw [hix, List.getElem?_append_right (by omega), a, Nat.add_sub_cancel_left]
        exact hu
/-- An element, and what may be done to it. -/
theorem Els.at_ (hE : TLoc E T) {w : World} {lo hi : Nat} {xs : List α} {cells : List Value} (h : Els E sz w lo hi xs cells) {i : Nat} {x : α} (hx : xs[i]? = some x) :
    ∃ m m' es, lo ≤ m ∧ m ≤ m' ∧ m' ≤ hi ∧ es.length = sz ∧ E w m m' x es ∧ (∀ j u, es[j]? = some u → cells[i * sz + j]? = some u) ∧
      ∀ (w' : World) (y : α) (es' : List Value), es'.length = sz → (∀ u ∈ es', u.oneCell' = true) → (∀ b, lo ≤ b → b < hi → Typed w T b → ¬ (m ≤ b ∧ b < m') → w'.heap[b]? = w.heap[b]?) → E w' m m' y es' →
        ∀ cells' : List Value, cells'.length = cells.length → (∀ k, ¬ (i * sz ≤ k ∧ k < i * sz + sz) → cells'[k]? = cells[k]?) → (∀ j u, es'[j]? = some u → cells'[i * sz + j]? = some u) → (∀ u ∈ cells', u.oneCell' = true) → Els E sz w' lo hi (xs.set i y) cells' := by
  obtain ⟨a, b, m, m1, m2, m3, m4⟩ := h
  have hlt := lt_of_some hx
  obtain ⟨es, e1, e2, e3⟩ := m4 i x hx
  have l1 := mono_of m1 (Nat.zero_le i)
  have l2 := mono_of m1 (show i + 1 ≤ xs.length by omega)
  refine ⟨m i, m (i + 1), es, by omega, m1 i, by omega, e1, e2, e3, fun w' y es' hl h1 hs hy cells' hcl hck hce hc1 => ⟨by rw [hcl, a, List.length_set], hc1, m, m1, m2, by rw [List.length_set]; exact m3, fun k z hz => ?_⟩⟩
  by_cases hk : i = k
  · subst hk
    rw [List.getElem?_set_self hlt] at hz
    cases hz
    exact ⟨es', hl, hy, hce⟩
  · rw [List.getElem?_set_ne hk] at hz
    obtain ⟨zs, z1, z2, z3⟩ := m4 k z hz
    have hkl := lt_of_some hz
    have k1 := mono_of m1 (Nat.zero_le k)
    have k2 := mono_of m1 (show k + 1 ≤ xs.length by omega)
    refine ⟨zs, z1, hE.go (fun b b1 b2 ht => hs b (by omega) (by omega) ht fun hb => ?_) (Nat.le_refl _) (Nat.le_refl _) z2, fun j u hu => ?_⟩
    · rcases Nat.lt_or_gt_of_ne hk with h | h
      · have := mono_of m1 (show i + 1 ≤ k by omega); omega
      · have := mono_of m1 (show k + 1 ≤ i by omega); omega
    · rw [hck _ (by
        have hj := lt_of_some hu
        rcases Nat.lt_or_gt_of_ne hk with h | h
        · have : (i + 1) * sz ≤ k * sz := Nat.mul_le_mul_right _ h
          rw [Nat.succ_mul] at this
          omega
        · have : (k + 1) * sz ≤ i * sz := Nat.mul_le_mul_right _ h
          rw [Nat.succ_mul] at this
          omega)]
      exact z3 j u hu
/-- A row of its own, of such elements. -/
def ORow (e : TypeId) (E : Rep α) (sz : Nat) : Rep (List α) := fun w lo hi xs cs =>
  ∃ (v : Value) (cells : List Value), cs = [v] ∧ w.ownsRow lo e sz v xs.length cells ∧ (∀ g, v.ownBlock = some g → g < hi) ∧ Els E sz w lo hi xs cells
theorem ORow.form {w : World} {lo hi : Nat} {v : Value} {xs : List α} (h : ORow e E sz w lo hi xs [v]) : ∃ A c, v = .slice A xs.length c := by
  obtain ⟨v', cells, e1, h, _⟩ := h
  cases e1
  exact own_form h
theorem ORow.nil {w : World} {lo hi : Nat} (h : lo ≤ hi) : ORow e E sz w lo hi [] [.slice none 0 0] := ⟨_, [], rfl, World.ownsRow_nil _ _ _ _, fun _ h => (by cases h), Els.nil h⟩
theorem ORow.tloc (hE : TLoc E T) : TLoc (ORow e E sz) (e :: T) := by
  refine ⟨?_⟩
  intro w w' lo hi lo' hi' xs cs hs h1 h2 h
  obtain ⟨v, cells, rfl, ho, hg, hels⟩ := h
  refine ⟨v, cells, rfl, ⟨ho.1, ?_⟩, fun g hgg => Nat.lt_of_lt_of_le (hg g hgg) h2, hels.go hE (fun b b1 b2 ⟨t, ht, hd⟩ => hs b b1 b2 ⟨t, List.mem_cons_of_mem _ ht, hd⟩) h1 h2⟩
  rcases ho.2 with hn | ⟨g, cap, cur, rfl, hb, hgg, rest⟩
  · exact .inl hn
  · refine .inr ⟨g, cap, cur, rfl, Nat.le_trans h1 hb, ?_, rest⟩
    rw [hs g hb (hg g rfl) ⟨e, List.mem_cons_self, cur, hgg⟩]
    exact hgg
theorem ORow.sl {E' : Rep α} (hE' : Loc E') (he : ∀ {w : World} {lo hi : Nat} {x : α} {es : List Value}, E w lo hi x es → E' w lo hi x es) {w : World} {lo hi : Nat} {xs : List α} {cs : List Value} (h : ORow e E sz w lo hi xs cs) : RSl E' sz w lo hi xs cs := by
  obtain ⟨v, cells, rfl, h1, hg, a, _, m, m1, m2, m3, m4⟩ := h
  obtain ⟨_, h2⟩ := h1
  rcases h2 with ⟨rfl, h0⟩ | ⟨g, cap, cur, rfl, hb, hh, hnc, hcm, hcs, htake⟩
  · exact ⟨none, 0, by rw [h0], by omega, by unfold maxLen; omega, fun hp => by omega⟩
  · refine ⟨_, cap, rfl, hnc, hcm, fun _ => ⟨g, 0, rfl, hb, hg g rfl, fun i x hi => ?_⟩⟩
    obtain ⟨es, e1, e2, e3⟩ := m4 i x hi
    have hlt := lt_of_some hi
    have l1 := mono_of m1 (Nat.zero_le i)
    have l2 := mono_of m1 (show i + 1 ≤ xs.length by omega)
    refine ⟨es, e1, hE'.wide (he e2) (by omega) (by omega), fun j u hu => ?_⟩
    have hx := e3 j u hu
    rw [← htake, List.getElem?_take] at hx
    split at hx
    · rw [cell_of_row w g (0 + i * sz + j) cur _ (0, 0) hh, Nat.zero_add]
      simpa using hx
    · cases hx
theorem ORow.slT {E' : Rep α} (hE' : Loc E') (he : ∀ {w : World} {lo hi : Nat} {x : α} {es : List Value}, E w lo hi x es → E' w lo hi x es) {w : World} {lo hi : Nat} {xs : List α} {cs : List Value} (h : ORow e E sz w lo hi xs cs) : RSlT e E' sz w lo hi xs cs := by
  refine ⟨h.sl hE' he, fun hp b off n c e' => ?_⟩
  obtain ⟨v, cells, rfl, h1, hg, _⟩ := h
  simp only [List.cons.injEq, and_true] at e'
  subst e'
  rcases h1.2 with ⟨h0, _⟩ | ⟨g, cap, cur, h0, _, hk, _⟩
  · cases h0
  · cases h0; exact ⟨_, hk⟩
theorem ORow.some_ {w : World} {lo hi : Nat} {v : Value} {xs : List α} (h : ORow e E sz w lo hi xs [v]) (hp : 0 < xs.length) : ∃ g c, v = .slice (some ⟨g, 0, none⟩) xs.length c ∧ lo ≤ g ∧ g < hi ∧ g < w.heap.size ∧ ∃ ds, Blk w g e ds := by
  obtain ⟨v', cells, e1, h, hg, _⟩ := h
  cases e1
  rcases h.2 with ⟨_, h0⟩ | ⟨g, cap, cur, rfl, hb, hk, _⟩
  · omega
  · exact ⟨g, cap, rfl, hb, hg g rfl, (show Blk w g e cur from hk).lt, cur, hk⟩
theorem ORow.frozen {w : World} {lo hi g c n : Nat} {xs : List α} (h : ORow e E sz w lo hi xs [.slice (some ⟨g, 0, none⟩) n c]) (j : Nat) : w.frozen? ⟨g, j, none⟩ = false := by
  obtain ⟨v', cells, e1, h, hg, _⟩ := h
  cases e1
  obtain ⟨A, c', e2⟩ := own_form h
  cases e2
  exact h.frozenAt j
/-- An element: how it reads; what becomes of the row when it is changed where it lies. -/
theorem ORow.at_ (hE : TLoc E T) (heT : e ∉ T) {w : World} {lo hi g c n : Nat} {xs : List α} (h : ORow e E sz w lo hi xs [.slice (some ⟨g, 0, none⟩) n c]) {i : Nat} {x : α} (hx : xs[i]? = some x) :
    ∃ m m' es, lo ≤ m ∧ m ≤ m' ∧ m' ≤ hi ∧ es.length = sz ∧ E w m m' x es ∧ (∀ j u, es[j]? = some u → w.cell? ⟨g, i * sz + j, none⟩ = some u) ∧
      ∀ (w' : World) (y : α), Chg (fun b => m ≤ b ∧ b < m' ∧ Typed w T b) w w' → E w' m m' y es → ORow e E sz w' lo hi (xs.set i y) [.slice (some ⟨g, 0, none⟩) n c] := by
  obtain ⟨v', cells, e1, ho, hg, hels⟩ := h
  cases e1
  obtain ⟨A, c', e2⟩ := own_form ho
  cases e2
  have hlt := lt_of_some hx
  obtain ⟨m, m', es, l1, l2, l3, e1, e2, e3, hup⟩ := hels.at_ hE hx
  refine ⟨m, m', es, l1, l2, l3, e1, e2, fun j u hu => ?_, fun w' y hc hy => ?_⟩
  · have hj := lt_of_some hu
    have hb : (i + 1) * sz ≤ xs.length * sz := Nat.mul_le_mul_right _ hlt
    rw [Nat.succ_mul] at hb
    rw [ho.cellAt _ (by omega)]
    exact e3 j u hu
  · have hgb : ¬ (m ≤ g ∧ g < m' ∧ Typed w T g) := fun ⟨_, _, t, ht, ds, hd⟩ => by
      rcases ho.2 with ⟨h0, _⟩ | ⟨g', cap, cur, h0, _, hk, _⟩
      · cases h0
      · cases h0; exact heT (blk_type hk hd ▸ ht)
    refine ⟨_, cells, rfl, ?_, hg, hup w' y es e1 (fun u hu => ?_) (fun b b1 b2 ht hb => ?_) hy cells rfl (fun _ _ => rfl) e3 hels.2.1⟩
    · rw [List.length_set]
      exact own_chg ho hc fun b hb => by cases hb; exact hgb
    · obtain ⟨j, hj⟩ := List.getElem?_of_mem hu
      exact hels.2.1 u (List.mem_of_getElem? (e3 j u hj))
    · obtain ⟨t, _, ds, hd⟩ := id ht
      exact hc.block b hd.lt fun hs => hb ⟨hs.1, hs.2.1⟩
/-- A cell of an element is written. -/
theorem ORow.put (hE : TLoc E T) (heT : e ∉ T) {w : World} {lo hi g c n : Nat} {xs : List α} (h : ORow e E sz w lo hi xs [.slice (some ⟨g, 0, none⟩) n c]) {i j : Nat} {x y : α} {u : Value} (hx : xs[i]? = some x) (hj : j < sz) (hu : u.oneCell' = true) (hy : ∀ (w' : World) (lo hi : Nat) (es : List Value), E w' lo hi x es → E w' lo hi y (es.set j u)) :
    ORow e E sz (w.setCell ⟨g, i * sz + j, none⟩ u) lo hi (xs.set i y) [.slice (some ⟨g, 0, none⟩) n c] := by
  obtain ⟨v', cells, e1, ho, hg, hels⟩ := h
  cases e1
  obtain ⟨A, c', e2⟩ := own_form ho
  cases e2
  have hlt := lt_of_some hx
  have hst := (ho.stored (i * sz + j) u).1
  obtain ⟨m, m', es, l1, l2, l3, e1, e2, e3, hup⟩ := hels.at_ hE hx
  have hgT : ¬ Typed w T g := fun ⟨t, ht, ds, hd⟩ => by
    rcases ho.2 with ⟨h0, _⟩ | ⟨g', cap, cur, h0, _, hk, _⟩
    · cases h0
    · cases h0; exact heT (blk_type hk hd ▸ ht)
  have hkeep : ∀ b, Typed w T b → (w.setCell ⟨g, i * sz + j, none⟩ u).heap[b]? = w.heap[b]? := fun b ht => Below.heap_setCell _ _ _ _ (by rintro rfl; exact hgT ht)
  have hall : ∀ v ∈ cells.set (i * sz + j) u, v.oneCell' = true := fun v hv => by
    rcases List.mem_or_eq_of_mem_set hv with hv | rfl
    · exact hels.2.1 v hv
    · exact hu
  have hesc : ∀ j' u', (es.set j u)[j']? = some u' → (cells.set (i * sz + j) u)[i * sz + j']? = some u' := fun j' u' hu' => by
    by_cases hjj : j = j'
    · subst hjj
      rw [List.getElem?_set_self (by omega)] at hu'
      rw [List.getElem?_set_self (by
        have hb : (i + 1) * sz ≤ xs.length * sz := Nat.mul_le_mul_right _ hlt
        rw [Nat.succ_mul] at hb
        rw [hels.1]; omega)]
      exact hu'
    · rw [List.getElem?_set_ne hjj] at hu'
      rw [List.getElem?_set_ne (by omega)]
      exact e3 j' u' hu'
  refine ⟨_, cells.set (i * sz + j) u, rfl, by rw [List.length_set]; exact hst, hg, hup _ y (es.set j u) (by rw [List.length_set]; exact e1) (fun v hv => ?_) (fun b b1 b2 ht _ => hkeep b ht) (hy _ _ _ _ (hE.go (fun b _ _ ht => hkeep b ht) (Nat.le_refl _) (Nat.le_refl _) e2)) _ (by rw [List.length_set]) (fun k hk => ?_) hesc hall⟩
  · obtain ⟨j', hj'⟩ := List.getElem?_of_mem hv
    exact hall v (List.mem_of_getElem? (hesc j' v hj'))
  · rw [List.getElem?_set_ne (by omega)]
/-- A row that is being made: block g of N cells, the first elements written. -/
def ORowP (e : TypeId) (E : Rep α) (sz N : Nat) (w : World) (lo g hi : Nat) (xs : List α) : Prop := ∃ cells, Pre w g e N cells ∧ lo ≤ g ∧ g < hi ∧ Els E sz w lo hi xs cells
theorem ORowP.own {w : World} {lo g hi : Nat} {xs : List α} (h : ORowP e E sz (xs.length * sz) w lo g hi xs) (hm : xs.length ≤ maxLen) : ORow e E sz w lo hi xs [.slice (some ⟨g, 0, none⟩) xs.length xs.length] := by
  obtain ⟨cells, ⟨cs, hk, hs, hc⟩, h1, h2, hels⟩ := h
  refine ⟨_, cells, rfl, ⟨hels.1, .inr ⟨g, xs.length, cs, rfl, h1, hk, Nat.le_refl _, hm, hs, ?_⟩⟩, fun b hb => by cases hb; exact h2, hels⟩
  apply List.ext_getElem?
  intro j
  rw [List.getElem?_take]
  have hl := hels.1
  by_cases hj : j < xs.length * sz
  · rw [if_pos hj]
    have hj' : j < cells.length := by omega
    rw [List.getElem?_eq_getElem hj', ← hc j _ (List.getElem?_eq_getElem hj')]
    simp
  · rw [if_neg hj, List.getElem?_eq_none (by omega)]
theorem ORowP.push2 (hE : TLoc E T) (heT : e ∉ T) {N : Nat} {w : World} {lo g mid hi : Nat} {xs : List α} (h : ORowP e E 2 N w lo g mid xs) {y : α} {u0 u1 : Value} (h0 : u0.oneCell' = true) (h1 : u1.oneCell' = true) (hm : mid ≤ hi) (hy : E w mid hi y [u0, u1]) (hN : xs.length * 2 + 2 ≤ N) :
    ORowP e E 2 N ((w.setCell ⟨g, xs.length * 2, none⟩ u0).setCell ⟨g, xs.length * 2 + 1, none⟩ u1) lo g hi (xs ++ [y]) := by
  obtain ⟨cells, hp, l1, l2, hels⟩ := h
  have hl := hels.1
  have p0 := hp.push u0 (by omega)
  have p1 := p0.push u1 (by rw [List.length_append, List.length_singleton]; omega)
  rw [List.length_append, List.length_singleton, hl] at p1
  have hgT : ¬ Typed w T g := fun ⟨t, ht, ds, hd⟩ => by
    obtain ⟨cs, hk, _⟩ := hp
    exact heT (blk_type hk hd ▸ ht)
  have hkeep : ∀ b, Typed w T b → ((w.setCell ⟨g, xs.length * 2, none⟩ u0).setCell ⟨g, xs.length * 2 + 1, none⟩ u1).heap[b]? = w.heap[b]? := fun b ht => by
    have hne : b ≠ g := by rintro rfl; exact hgT ht
    rw [Below.heap_setCell _ _ _ _ hne, Below.heap_setCell _ _ _ _ hne]
  refine ⟨cells ++ [u0, u1], ?_, l1, by omega, ?_⟩
  · rw [show cells ++ [u0, u1] = cells ++ [u0] ++ [u1] by simp]; exact p1
  · have h' := Els.snoc (E := E) (hels.go (lo' := lo) (hi' := mid) hE (fun b _ _ ht => hkeep b ht) (Nat.le_refl _) (Nat.le_refl _)) (y := y) (es := [u0, u1]) rfl (fun u hu => by simp at hu; rcases hu with rfl | rfl <;> assumption) hm (hE.go (fun b _ _ ht => hkeep b ht) (Nat.le_refl _) (Nat.le_refl _) hy)
    exact h' hE.loc
theorem ORowP.chg (hE : TLoc E T) {N : Nat} {w w' : World} {lo g hi : Nat} {xs : List α} (h : ORowP e E sz N w lo g hi xs) (hb : Below w.heap.size w w') (hh : hi ≤ w.heap.size) : ORowP e E sz N w' lo g hi xs := by
  obtain ⟨cells, hp, l1, l2, hels⟩ := h
  exact ⟨cells, hp.chg (Chg.of_below (S := fun _ => False) hb) (fun h => h), l1, l2, hels.go hE (fun b _ b2 _ => hb.block b (by omega)) (Nat.le_refl _) (Nat.le_refl _)⟩
theorem ORowP.frozen {N : Nat} {w : World} {lo g hi : Nat} {xs : List α} (h : ORowP e E sz N w lo g hi xs) (j : Nat) : w.frozen? ⟨g, j, none⟩ = false := by
  obtain ⟨cells, hp, _⟩ := h
  exact hp.frozen j
theorem ORowP.there {N : Nat} {w : World} {lo g hi : Nat} {xs : List α} (h : ORowP e E sz N w lo g hi xs) {j : Nat} (hj : j < N) : ∃ u, w.cell? ⟨g, j, none⟩ = some u := by
  obtain ⟨cells, hp, _⟩ := h
  exact hp.there hj
theorem ORowP.new (e : TypeId) (E : Rep α) (sz : Nat) (w : World) (cs : Array Value) : ORowP e E sz cs.size (w.alloc (.cells cs e)) w.heap.size w.heap.size (w.alloc (.cells cs e)).heap.size [] :=
  ⟨[], Pre.new _ _ _, Nat.le_refl _, by simp, Els.nil (by simp)⟩
end
/-- A flat row that is owned is one. -/
theorem OwnF.orow {α : Type} {F : Flat α} {e : TypeId} {w : World} {base hi : Nat} {v : Value} {xs : List α} (h : OwnF F e w base v xs) (hg : ∀ x ∈ xs, F.good x) (hb : base ≤ hi) (hhi : ∀ g, v.ownBlock = some g → g < hi) : ORow e (RFlat F) F.sz w base hi xs [v] :=
  ⟨v, flats F xs, rfl, h, hhi, flats_len F xs, flats_one F xs, fun _ => base, fun _ => Nat.le_refl _, Nat.le_refl _, hb, fun i x hi => ⟨F.cells x, F.len x, ⟨rfl, hg x (List.mem_of_getElem? hi)⟩, fun _ _ hu => flats_get F xs i _ x _ hi hu⟩⟩
theorem ORow.flat {α : Type} {F : Flat α} {e : TypeId} {w : World} {lo hi : Nat} {v : Value} {xs : List α} (h : ORow e (RFlat F) F.sz w lo hi xs [v]) : OwnF F e w lo v xs ∧ (∀ x ∈ xs, F.good x) ∧ lo ≤ hi ∧ ∀ g, v.ownBlock = some g → g < hi := by
  obtain ⟨v', cells, e1, ho, hg, hels⟩ := h
  cases e1
  have hle := hels.le
  obtain ⟨hl, h0, m, m1, m2, m3, m4⟩ := hels
  have hgood : ∀ x ∈ xs, F.good x := fun x hx => by
    obtain ⟨i, hi⟩ := List.getElem?_of_mem hx
    obtain ⟨es, _, hr, _⟩ := m4 i x hi
    exact hr.2
  refine ⟨?_, hgood, hle, hg⟩
  have : cells = flats F xs := by
    apply List.ext_getElem?
    intro k
    rcases Nat.lt_or_ge k (xs.length * F.sz) with hk | hk
    · have hi : k / F.sz < xs.length := Nat.div_lt_of_lt_mul (by rw [Nat.mul_comm]; exact hk)
      have hx := List.getElem?_eq_getElem hi
      obtain ⟨es, hel, ⟨rfl, _⟩, hc⟩ := m4 _ _ hx
      have hm : k % F.sz < (F.cells xs[k / F.sz]).length := by rw [F.len]; exact Nat.mod_lt _ F.pos
      have h3 := hc (k % F.sz) _ (List.getElem?_eq_getElem hm)
      have h4 := flats_get F xs (k / F.sz) (k % F.sz) _ _ hx (List.getElem?_eq_getElem hm)
      rw [Nat.div_add_mod'] at h3 h4
      rw [h3, h4]
    · rw [List.getElem?_eq_none (by omega), List.getElem?_eq_none (by rw [flats_len]; exact hk)]
  rw [this] at ho
  exact ho
end Go.Proofs.YtpdkgpbfmpekgaaGreatDoor
