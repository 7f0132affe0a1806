


/- The members of a set, sorted: plain. -/
import Derived.Test.YtpdbohjgmghgkaaKpM
import Derived.Maps.OwnSet
namespace Go.Proofs.Ytpdbohjgmghgkaa
open Go.RowKit Go.Maps

theorem sorted_is {ss r : List Int} (hn : ss.Nodup) (hr : r.Pairwise (· < ·)) (hm : ∀ x, x ∈ ss ↔ x ∈ r) : ss.mergeSort (fun x y => decide (x ≤ y)) = r := by
  have hrn : r.Nodup := hr.imp fun {a b} h e => by omega
  have hp : ss.Perm r := (List.perm_ext_iff_of_nodup hn hrn).2 hm
  have h1 : (ss.mergeSort fun x y => decide (x ≤ y)).Perm r := (List.mergeSort_perm _ _).trans hp
  have h2 : (ss.mergeSort fun x y => decide (x ≤ y)).Pairwise (fun x y => decide (x ≤ y) = true) := List.pairwise_mergeSort (fun a b c h h' => by simp at *; omega) (fun a b => by simp; omega) ss
  have h3 : r.Pairwise (fun x y => decide (x ≤ y) = true) := hr.imp fun {a b} h => by simp; omega
  exact h1.eq_of_pairwise (fun a b _ _ h h' => by simp at h h'; omega) h2 h3
section
variable {H : Type}
open Classical in
theorem put_keys {es : List (Lit × DataW H)} {k : Lit} {d : DataW H} {P : Lit → Prop} (h : ∀ p ∈ es, P p.1) (hk : P k) : ∃ es', (DataW.map es).put k d = .map es' ∧ ∀ p ∈ es', P p.1 := by
  refine ⟨_, rfl, fun p hp => ?_⟩
  apply Classical.byContradiction
  intro hn
  have h1 := any_insert (fun q : Lit × DataW H => decide (¬ P q.1)) (k, d) (es.filter fun p => !p.1.sameKey k)
  rw [List.any_eq_true.2 ⟨p, hp, by simp [hn]⟩] at h1
  simp only [hk, not_true_eq_false, decide_false, Bool.false_or] at h1
  obtain ⟨q, hq, hq2⟩ := List.any_eq_true.1 h1.symm
  have := h q (List.mem_filter.1 hq).1
  simp [this] at hq2
theorem fold_keys (u : DataW H) {P : Lit → Prop} : ∀ (acc : List Lit) (es : List (Lit × DataW H)), (∀ x ∈ acc, P x) → (∀ p ∈ es, P p.1) → ∃ es' : List (Lit × DataW H), acc.foldl (fun (m : DataW H) x => m.put x u) (DataW.map es) = DataW.map es' ∧ ∀ p ∈ es', P p.1
  | [], es, _, h => ⟨es, rfl, h⟩
  | x :: acc, es, ha, h => by
    obtain ⟨es1, e1, h1⟩ := put_keys (k := x) (d := u) h (ha x (by simp))
    show ∃ es' : List (Lit × DataW H), acc.foldl (fun (m : DataW H) x => m.put x u) ((DataW.map es).put x u) = DataW.map es' ∧ _
    rw [e1]
    exact fold_keys u acc es1 (fun y hy => ha y (by simp [hy])) h1
theorem set_keys (u : DataW H) (L : List Int) : (intKeys (setOf u (L.map (Lit.int .i64)))).Nodup ∧ ∀ x, x ∈ intKeys (setOf u (L.map (Lit.int .i64))) ↔ x ∈ L := by
  have hkl : ∀ x ∈ L.map (Lit.int .i64), WideAt.IsKeyLit x := fun x hx => by
    obtain ⟨y, _, rfl⟩ := List.mem_map.1 hx
    simp [WideAt.IsKeyLit]
  obtain ⟨es, e1, h1⟩ := fold_keys u (P := fun k => ∃ y, y ∈ L ∧ k = Lit.int .i64 y) (L.map (Lit.int .i64)) [] (fun x hx => by
    obtain ⟨y, hy, rfl⟩ := List.mem_map.1 hx
    exact ⟨y, hy, rfl⟩) (fun p hp => by cases hp)
  have hs : setOf u (L.map (Lit.int .i64)) = .map es := e1
  obtain ⟨es2, e2, ht⟩ := tidy_setOf u _ hkl
  rw [hs] at e2
  cases e2
  have hh := fun k => has_setOf u k _ hkl
  rw [hs] at hh ⊢
  refine ⟨?_, fun x => ?_⟩
  · unfold intKeys
    refine List.pairwise_map.2 (ht.imp_of_mem fun {p q} hp hq hne e => ?_)
    obtain ⟨y, _, hy⟩ := h1 p hp
    obtain ⟨z, _, hz⟩ := h1 q hq
    rw [hy, hz] at e hne
    exact hne (congrArg (Lit.int .i64) e)
  · unfold intKeys
    constructor
    · intro hx
      obtain ⟨p, hp, rfl⟩ := List.mem_map.1 hx
      obtain ⟨y, hy, e⟩ := h1 p hp
      rw [e]
      exact hy
    · intro hx
      have h2 := hh (.int .i64 x)
      have h3 : (L.map (Lit.int .i64)).any (fun y => y.sameKey (.int .i64 x)) = true := List.any_eq_true.2 ⟨_, List.mem_map.2 ⟨x, hx, rfl⟩, by simp [Lit.sameKey]⟩
      rw [h3, has_eq] at h2
      obtain ⟨p, hp, hp2⟩ := List.any_eq_true.1 h2
      obtain ⟨y, hy, e⟩ := h1 p hp
      rw [e] at hp2
      have : y = x := by simpa [Lit.sameKey] using hp2
      exact List.mem_map.2 ⟨p, hp, by rw [e, this]; rfl⟩
end
end Go.Proofs.Ytpdbohjgmghgkaa
