


/- How arguments that came in read: ints, strings, structs, slices of them, to any depth. -/
import Derived.Test.YtanppokbjladfaaLaw
import Derived.Deep.Slices
import Derived.Deep.Fields
namespace Go.Proofs.Ytanppokbjladfaa
open Go.RowKit Go.ChangeShapes Go.WideShapes Go.ChangeAt Go.Deep

def Opens {H : Type} (enc : TypeId × Value → H) (P : Program) (w : World) (t : TypeId) {α : Type} (E : Rep α) : Prop :=
  ∀ (base : Nat) (spare : Nat → Bool) (held : Bool) (fuel : Nat) (cs : List Value) (x : DataW H × List MemPlace), DataW.trod enc P w base spare held fuel t cs = some x → (∀ p ∈ x.2, p.block < w.heap.size) → ∃ a : α, E w 0 w.heap.size a cs
section
variable {H : Type} {enc : TypeId × Value → H} {P : Program} {w : World}
theorem opens_int {t : TypeId} (ht : P.underlying t = some (.int .i64)) : Opens enc P w t RInt := by
  intro base spare held fuel cs x h _
  obtain ⟨n, rfl, _, hw⟩ := DataW.trod_int ht h
  exact ⟨n, rfl, in64_of_wf hw⟩
theorem opens_str {t : TypeId} (ht : P.underlying t = some .string) : Opens enc P w t RStr := by
  intro base spare held fuel cs x h _
  obtain ⟨s, rfl, _, hw⟩ := DataW.trod_string ht h
  exact ⟨s, rfl, hw⟩
theorem Opens.map {t : TypeId} {α β : Type} {E : Rep α} {E' : Rep β} (h : Opens enc P w t E) (f : α → β) (hf : ∀ a cs, E w 0 w.heap.size a cs → E' w 0 w.heap.size (f a) cs) : Opens enc P w t E' := by
  intro base spare held fuel cs x hx hp
  obtain ⟨a, ha⟩ := h base spare held fuel cs x hx hp
  exact ⟨f a, hf a cs ha⟩
theorem opens_slice {t e : TypeId} {α : Type} {E : Rep α} {sz : Nat} (ht : P.underlying t = some (.slice e)) (hc : P.cellsOf e = sz) (hsz : 0 < sz) (hE : Opens enc P w e E) : Opens enc P w t (RSl E sz) := by
  intro base spare held fuel cs x h hp
  rcases open_slice ht h with ⟨rfl, rfl⟩ | ⟨a, len, cap, m, n, D, Pl, rfl, hb, hl, hm, hmm, rfl, hi⟩
  · exact ⟨[], none, 0, rfl, Nat.le_refl _, by unfold maxLen; omega, fun h => absurd h (by simp)⟩
  · have hlm : len ≤ m := by rw [hmm]; split <;> omega
    have hel : ∀ i, i < len → ∃ (y : α) (es : List Value), es.length = sz ∧ E w 0 w.heap.size y es ∧ ∀ j u, es[j]? = some u → w.cell? ((a.add (i * sz)).add j) = some u := by
      intro i hil
      obtain ⟨cs', hcs, htr⟩ := hi i (by omega)
      rw [hc] at hcs
      obtain ⟨_, hcl, hat⟩ := World.cells?_some hcs
      obtain ⟨y, hy⟩ := hE base spare held n cs' _ htr (fun p hpp => hp p (by
        refine List.mem_append_right _ (List.mem_flatMap.2 ⟨i, List.mem_range.2 (by omega), hpp⟩)))
      exact ⟨y, cs', hcl, hy, fun j u hu => by rw [hat j (by have := lt_of_some hu; omega)]; exact hu⟩
    have hall : ∀ k, k ≤ len → ∃ xs : List α, xs.length = k ∧ ∀ i y, xs[i]? = some y → ∃ es : List Value, es.length = sz ∧ E w 0 w.heap.size y es ∧ ∀ j u, es[j]? = some u → w.cell? ((a.add (i * sz)).add j) = some u := by
      intro k
      induction k with
      | zero => intro _; exact ⟨[], rfl, fun i y hy => by simp at hy⟩
      | succ k ih =>
        intro hk
        obtain ⟨xs, hlen, hx⟩ := ih (by omega)
        obtain ⟨y, es, h1, h2, h3⟩ := hel k (by omega)
        refine ⟨xs ++ [y], by simp [hlen], fun i z hz => ?_⟩
        by_cases hik : i < k
        · rw [List.getElem?_append_left (by omega)] at hz
          exact hx i z hz
        · have hlt := lt_of_some hz
          simp [hlen] at hlt
          obtain rfl : i = k := by omega
          rw [List.getElem?_append_right (by omega), hlen] at hz
          simp at hz
          subst hz
          exact ⟨es, h1, h2, h3⟩
    obtain ⟨xs, hlen, hx⟩ := hall len (Nat.le_refl _)
    refine ⟨xs, some a, cap, by rw [hlen], by omega, hm, fun hp0 => ?_⟩
    rw [hlen] at hp0
    obtain ⟨y0, hy0⟩ := some_of_lt (l := xs) (k := 0) (by omega)
    obtain ⟨es0, hs0, _, hc0⟩ := hx 0 y0 hy0
    obtain ⟨u0, hu0⟩ := some_of_lt (l := es0) (k := 0) (by omega)
    have hcell0 := hc0 0 u0 hu0
    obtain ⟨b, off, spot⟩ := a
    have hspot : spot = none := by simpa [Addr.add] using World.cell?_spot hcell0
    subst hspot
    refine ⟨b, off, rfl, Nat.zero_le _, ?_, fun i y hy => ?_⟩
    · have hmem : MemPlace.cell b off ∈ MemPlace.row ⟨b, off, none⟩ (m * P.cellsOf e) ++ (List.range m).flatMap Pl := by
        refine List.mem_append_left _ (MemPlace.mem_row.2 ⟨0, ?_, rfl⟩)
        rw [hc]; exact Nat.mul_pos (by omega) hsz
      exact hp _ hmem
    · obtain ⟨es, h1, h2, h3⟩ := hx i y hy
      refine ⟨es, h1, h2, fun j u hu => ?_⟩
      have := h3 j u hu
      simpa [add_plain, Nat.add_assoc] using this
/-- Two values side by side. -/
def R2 {α β : Type} (A : Rep α) (n : Nat) (B : Rep β) : Rep (α × β) := fun w lo hi x cs => ∃ c0 c1 : List Value, cs = c0 ++ c1 ∧ c0.length = n ∧ A w lo hi x.1 c0 ∧ B w lo hi x.2 c1
theorem opens_struct2 {t : TypeId} {f0 f1 : Field} {α β : Type} {A : Rep α} {B : Rep β} (n0 n1 : Nat) (ht : P.underlying t = some (.struct #[f0, f1])) (hc : P.cellsOf t = n0 + n1) (o0 : f0.offset = 0) (c0 : P.cellsOf f0.type = n0) (o1 : f1.offset = n0) (c1 : P.cellsOf f1.type = n1)
    (h0 : Opens enc P w f0.type A) (h1 : Opens enc P w f1.type B) : Opens enc P w t (R2 A n0 B) := by
  intro base spare held fuel cs x h hp
  obtain ⟨xs, n, _, rfl, hlen, hxl, hf⟩ := DataW.trod_struct ht h
  match xs, hxl with
  | [y0, y1], _ =>
    have g0 := hf 0 f0 rfl
    have g1 := hf 1 f1 rfl
    rw [o0, c0, List.drop_zero] at g0
    rw [o1, c1] at g1
    obtain ⟨a, ha⟩ := h0 base spare held n _ y0 g0 (fun p hpp => hp p (by simp [hpp]))
    obtain ⟨b, hb⟩ := h1 base spare held n _ y1 g1 (fun p hpp => hp p (by simp [hpp]))
    refine ⟨(a, b), cs.take n0, (cs.drop n0).take n1, ?_, by rw [List.length_take, hlen, hc]; omega, ha, hb⟩
    have e : (cs.drop n0).take n1 = cs.drop n0 := List.take_of_length_le (by rw [List.length_drop, hlen, hc]; omega)
    rw [e, List.take_append_drop]
def R3 {α β γ : Type} (A : Rep α) (n : Nat) (B : Rep β) (m : Nat) (C : Rep γ) : Rep (α × β × γ) := fun w lo hi x cs => ∃ c0 c1 c2 : List Value, cs = c0 ++ (c1 ++ c2) ∧ c0.length = n ∧ c1.length = m ∧ A w lo hi x.1 c0 ∧ B w lo hi x.2.1 c1 ∧ C w lo hi x.2.2 c2
theorem opens_struct3 {t : TypeId} {f0 f1 f2 : Field} {α β γ : Type} {A : Rep α} {B : Rep β} {C : Rep γ} (n0 n1 n2 : Nat) (ht : P.underlying t = some (.struct #[f0, f1, f2])) (hc : P.cellsOf t = n0 + n1 + n2) (o0 : f0.offset = 0) (c0 : P.cellsOf f0.type = n0) (o1 : f1.offset = n0) (c1 : P.cellsOf f1.type = n1) (o2 : f2.offset = n0 + n1) (c2 : P.cellsOf f2.type = n2)
    (h0 : Opens enc P w f0.type A) (h1 : Opens enc P w f1.type B) (h2 : Opens enc P w f2.type C) : Opens enc P w t (R3 A n0 B n1 C) := by
  intro base spare held fuel cs x h hp
  obtain ⟨xs, n, _, rfl, hlen, hxl, hf⟩ := DataW.trod_struct ht h
  match xs, hxl with
  | [y0, y1, y2], _ =>
    have g0 := hf 0 f0 rfl
    have g1 := hf 1 f1 rfl
    have g2 := hf 2 f2 rfl
    rw [o0, c0, List.drop_zero] at g0
    rw [o1, c1] at g1
    rw [o2, c2] at g2
    obtain ⟨a, ha⟩ := h0 base spare held n _ y0 g0 (fun p hpp => hp p (by simp [hpp]))
    obtain ⟨b, hb⟩ := h1 base spare held n _ y1 g1 (fun p hpp => hp p (by simp [hpp]))
    obtain ⟨c, hcc⟩ := h2 base spare held n _ y2 g2 (fun p hpp => hp p (by simp [hpp]))
    refine ⟨(a, b, c), cs.take n0, (cs.drop n0).take n1, (cs.drop (n0 + n1)).take n2, ?_, by rw [List.length_take, hlen, hc]; omega, by rw [List.length_take, List.length_drop, hlen, hc]; omega, ha, hb, hcc⟩
    have e : (cs.drop (n0 + n1)).take n2 = (cs.drop n0).drop n1 := by rw [List.drop_drop]; exact List.take_of_length_le (by rw [List.length_drop, hlen, hc]; omega)
    rw [e, List.take_append_drop, List.take_append_drop]
theorem Opens.arg {t : TypeId} {α : Type} {E : Rep α} (hE : Opens enc P w t E) {base : Nat} {spare : Nat → Bool} {held : Bool} {v : Value} {d : DataW H} {p : List MemPlace} (h : DataW.Trod enc P w base spare held t v d p) (hlt : ∀ x ∈ p, x.block < w.heap.size) : ∃ a, E w 0 w.heap.size a v.cells.toList := by
  obtain ⟨fuel, hf⟩ := h
  exact hE base spare held fuel _ _ hf hlt
end
end Go.Proofs.Ytanppokbjladfaa
