


/- Which snapshots are kept: laws, plain. -/
import Derived.Test.YtpdbohjgmghgkaaKpT
namespace Go.Proofs.Ytpdbohjgmghgkaa

theorem mem_drop_nodup {α : Type} {A B : List α} {x : α} (hn : (A ++ x :: B).Nodup) (k : Nat) : x ∈ (A ++ x :: B).drop k ↔ k ≤ A.length := by
  constructor
  · intro h
    rcases Nat.lt_or_ge A.length k with hk | hk
    · exfalso
      have e : (A ++ x :: B).drop k = B.drop (k - A.length - 1) := by
        rw [List.drop_append, List.drop_eq_nil_of_le (by omega), List.nil_append]
        have : k - A.length = (k - A.length - 1) + 1 := by omega
        rw [this, List.drop_succ_cons]
        simp
      rw [e] at h
      have h1 := (List.nodup_append.1 hn).2.1
      exact (List.nodup_cons.1 h1).1 (List.mem_of_mem_drop h)
    · exact hk
  · intro h
    rw [List.drop_append_of_le_length h]
    simp
theorem ids_nodup (l : List St) (span : Int) (n : Nat) : (ids l span n).Nodup := (ids_asc l span n).imp fun h => Nat.ne_of_lt h
/-- A snapshot is kept if it ends its span, and few enough behind it do. -/
theorem kD_iff {l : List St} {span m : Int} {i : Nat} (hi : i < l.length) : i ∈ kD l span m ↔ endS l span i = true ∧ ((tl l span (i + 1)).length : Int) < m := by
  have h1 := tl_ids l span (Nat.le_of_lt hi)
  rw [tl_step hi] at h1
  cases he : endS l span i with
  | false =>
    constructor
    · intro h
      have := (kD_sub l span m).subset h
      have := (List.mem_filter.1 this).2
      rw [he] at this; cases this
    · rintro ⟨h, _⟩; cases h
  | true =>
    rw [he, if_pos rfl, List.singleton_append] at h1
    have hn := ids_nodup l span l.length
    rw [h1] at hn
    have := mem_drop_nodup hn ((ids l span i ++ i :: tl l span (i + 1)).length - m.toNat)
    unfold kD lastN
    rw [h1, this, List.length_append, List.length_cons]
    simp only [true_and]
    omega
def fv (span : Int) (x : St) : Int := if span = 0 then x.s else x.d.tdiv span
theorem get_lt {l : List St} {i : Nat} {x : St} (h : l[i]? = some x) : i < l.length := (List.getElem?_eq_some_iff.1 h).1
theorem get_at {l : List St} {i : Nat} {x : St} (h : l[i]? = some x) : l[i]'(get_lt h) = x := (List.getElem?_eq_some_iff.1 h).2
theorem st_rel {l : List St} (h : stA l) {i j : Nat} {x y : St} (hi : l[i]? = some x) (hj : l[j]? = some y) (hij : i < j) : stR x y := by
  have := List.pairwise_iff_getElem.1 h.2 i j (get_lt hi) (get_lt hj) hij
  rw [get_at hi, get_at hj] at this
  exact this
theorem tdiv_mono {a b span : Int} (ha : 0 ≤ a) (hab : a ≤ b) (hs : span = 1 ∨ span = 7) : a.tdiv span ≤ b.tdiv span := by
  rw [Int.tdiv_eq_ediv_of_nonneg ha, Int.tdiv_eq_ediv_of_nonneg (by omega)]
  rcases hs with rfl | rfl <;> omega
theorem fv_mono {l : List St} (h : stA l) {span : Int} (hs : span = 0 ∨ span = 1 ∨ span = 7) {i j : Nat} {x y : St} (hi : l[i]? = some x) (hj : l[j]? = some y) (hij : i ≤ j) : fv span x ≤ fv span y := by
  rcases Nat.lt_or_ge i j with hlt | hge
  · have hr := st_rel h hi hj hlt
    have hx := (h.1 x (List.mem_of_getElem? hi)).2
    unfold fv
    rcases hs with rfl | hs
    · simp only [if_true]; exact Int.le_of_lt hr.1
    · rw [if_neg (by omega), if_neg (by omega)]
      exact tdiv_mono hx.1 hr.2 hs
  · obtain rfl : i = j := by omega
    rw [hi] at hj; cases hj; exact Int.le_refl _
theorem fv_s_lt {l : List St} (h : stA l) {i j : Nat} {x y : St} (hi : l[i]? = some x) (hj : l[j]? = some y) (hij : i < j) : fv 0 x < fv 0 y := by
  have hr := st_rel h hi hj hij
  simp only [fv, if_true]; exact hr.1
theorem end_lt {l : List St} (h : stA l) {span : Int} (hs : span = 0 ∨ span = 1 ∨ span = 7) {i j : Nat} {x y : St} (he : endS l span i = true) (hi : l[i]? = some x) (hj : l[j]? = some y) (hij : i < j) : fv span x < fv span y := by
  by_cases h0 : span = 0
  · subst h0; exact fv_s_lt h hi hj hij
  · obtain ⟨z, hz⟩ : ∃ z, l[i + 1]? = some z := ⟨_, List.getElem?_eq_getElem (by have := get_lt hj; omega)⟩
    have h1 := fv_mono h hs hi hz (by omega)
    have h2 := fv_mono h hs hz hj (by omega)
    have hne : ¬ z.d.tdiv span = x.d.tdiv span := by
      unfold endS at he
      rw [dayAt_get hz, dayAt_get hi, decide_eq_false h0, decide_eq_false (by have := get_lt hj; omega)] at he
      simpa using he
    unfold fv at *
    rw [if_neg h0, if_neg h0] at h1 h2 ⊢
    omega
theorem end_of {l : List St} {span : Int} {i : Nat} {x : St} (hi : l[i]? = some x) (h : ∀ z, l[i + 1]? = some z → ¬ fv span z = fv span x) : endS l span i = true := by
  unfold endS
  by_cases h0 : span = 0
  · simp [h0]
  · by_cases h1 : i + 1 = l.length
    · simp [h1]
    · obtain ⟨z, hz⟩ : ∃ z, l[i + 1]? = some z := ⟨_, List.getElem?_eq_getElem (by have := get_lt hi; omega)⟩
      have := h z hz
      unfold fv at this
      rw [if_neg h0, if_neg h0] at this
      rw [dayAt_get hz, dayAt_get hi]
      simp [this]
/-- Each span has its end. -/
theorem end_ex {l : List St} {span : Int} : ∀ (n j : Nat) (y : St), l.length = j + n → l[j]? = some y → ∃ k z, j ≤ k ∧ l[k]? = some z ∧ endS l span k = true ∧ fv span z = fv span y
  | 0, j, y, hn, hj => by have := get_lt hj; omega
  | n + 1, j, y, hn, hj => by
    cases he : endS l span j with
    | true => exact ⟨j, y, Nat.le_refl _, hj, he, rfl⟩
    | false =>
      have : ¬ ∀ z, l[j + 1]? = some z → ¬ fv span z = fv span y := fun h => by
        have := end_of hj h
        rw [he] at this; cases this
      obtain ⟨z, hz⟩ := Classical.not_forall.1 this
      have hz1 := Classical.not_imp.1 hz
      obtain ⟨k, u, hk, hu, he', hf⟩ := end_ex n (j + 1) z (by omega) hz1.1
      exact ⟨k, u, by omega, hu, he', hf.trans (Classical.not_not.1 hz1.2)⟩
theorem tl_mem {l : List St} {span : Int} {i j : Nat} : j ∈ tl l span i ↔ i ≤ j ∧ j < l.length ∧ endS l span j = true := by
  unfold tl
  rw [List.mem_filter, List.mem_range'_1]
  constructor
  · intro ⟨⟨h1, h2⟩, h3⟩; exact ⟨h1, by omega, h3⟩
  · intro ⟨h1, h2, h3⟩; exact ⟨⟨h1, by omega⟩, h3⟩
theorem tl_asc (l : List St) (span : Int) (i : Nat) : (tl l span i).Pairwise (· < ·) := List.Pairwise.sublist List.filter_sublist List.pairwise_lt_range'
def fvs (l : List St) (span : Int) (i : Nat) : List Int := (tl l span i).map fun j => (l[j]?.map (fv span)).getD 0
theorem fvs_nodup {l : List St} (h : stA l) {span : Int} (hs : span = 0 ∨ span = 1 ∨ span = 7) (i : Nat) : (fvs l span i).Nodup := by
  unfold fvs
  refine List.pairwise_map.2 ((tl_asc l span i).imp_of_mem fun {a b} ha hb hab => ?_)
  obtain ⟨_, a2, a3⟩ := tl_mem.1 ha
  obtain ⟨_, b2, _⟩ := tl_mem.1 hb
  have ha' := List.getElem?_eq_getElem a2
  have hb' := List.getElem?_eq_getElem b2
  have := end_lt h hs a3 ha' hb' hab
  rw [ha', hb']
  simp only [Option.map_some, Option.getD_some]
  omega
theorem nodup_len' {α : Type} [DecidableEq α] : ∀ {a s : List α}, a.Nodup → (∀ x ∈ a, x ∈ s) → a.length ≤ s.length
  | [], _, _, _ => Nat.zero_le _
  | x :: a, s, hn, h => by
    have hx := h x (by simp)
    have h' := List.nodup_cons.1 hn
    have := nodup_len' (a := a) (s := s.erase x) h'.2 fun y hy => (List.mem_erase_of_ne (fun e : y = x => h'.1 (e ▸ hy))).2 (h y (by simp [hy]))
    rw [List.length_erase_of_mem hx] at this
    have := List.length_pos_of_mem hx
    simp only [List.length_cons]; omega
/-- Of fewer snapshots no fewer are kept: what is kept among all is kept among some. -/
theorem kD_less {l K : List St} (h : stA l) (hK : K.Sublist l) {span : Int} (hs : span = 0 ∨ span = 1 ∨ span = 7) {m : Int} {i j : Nat} {x : St} (hi : l[i]? = some x) (hj : K[j]? = some x) (hk : i ∈ kD l span m) : j ∈ kD K span m := by
  have hKA : stA K := ⟨fun y hy => h.1 y (hK.subset hy), h.2.sublist hK⟩
  obtain ⟨h1, h2⟩ := (kD_iff (get_lt hi)).1 hk
  -- what comes behind in K comes behind in l
  have hbe : ∀ (q : Nat) (y : St), j < q → K[q]? = some y → ∃ p, i < p ∧ l[p]? = some y := fun q y hq hy => by
    obtain ⟨p, hp⟩ := List.getElem?_of_mem (hK.subset (List.mem_of_getElem? hy))
    refine ⟨p, ?_, hp⟩
    have hr := st_rel hKA hj hy hq
    rcases Nat.lt_trichotomy i p with h3 | h3 | h3
    · exact h3
    · subst h3
      rw [hi] at hp; cases hp
      have := hr.1; omega
    · have := (st_rel h hp hi h3).1; have := hr.1; omega
  refine (kD_iff (get_lt hj)).2 ⟨end_of hj fun z hz => ?_, ?_⟩
  · obtain ⟨p, hp, hpz⟩ := hbe _ z (by omega) hz
    have := end_lt h hs h1 hi hpz hp
    omega
  · refine Int.lt_of_le_of_lt (Int.ofNat_le.2 ?_) h2
    have := nodup_len' (fvs_nodup hKA hs (j + 1)) (s := fvs l span (i + 1)) fun u hu => by
      obtain ⟨q, hq, rfl⟩ := List.mem_map.1 hu
      obtain ⟨q1, q2, q3⟩ := tl_mem.1 hq
      have hq' := List.getElem?_eq_getElem q2
      obtain ⟨p, hp, hpy⟩ := hbe q _ (by omega) hq'
      obtain ⟨k, z, hk1, hk2, hk3, hk4⟩ := end_ex (span := span) (l.length - p) p _ (by have := get_lt hpy; omega) hpy
      rw [hq']
      exact List.mem_map.2 ⟨k, tl_mem.2 ⟨by omega, get_lt hk2, hk3⟩, by rw [hk2]; simpa using hk4⟩
    unfold fvs at this
    rwa [List.length_map, List.length_map] at this
theorem asc_same : ∀ {a b : List Int}, a.Pairwise (· < ·) → b.Pairwise (· < ·) → (∀ x, x ∈ a ↔ x ∈ b) → a = b
  | [], [], _, _, _ => rfl
  | [], y :: b, _, _, h => by have := (h y).2 (by simp); cases this
  | x :: a, [], _, _, h => by have := (h x).1 (by simp); cases this
  | x :: a, y :: b, ha, hb, h => by
    have ha' := List.pairwise_cons.1 ha
    have hb' := List.pairwise_cons.1 hb
    have e : x = y := by
      rcases List.mem_cons.1 ((h x).1 (by simp)) with e | e
      · exact e
      · rcases List.mem_cons.1 ((h y).2 (by simp)) with e' | e'
        · exact e'.symm
        · have := hb'.1 x e; have := ha'.1 y e'; omega
    subst e
    rw [asc_same ha'.2 hb'.2 fun z => ?_]
    constructor
    · intro hz
      rcases List.mem_cons.1 ((h z).1 (by simp [hz])) with e | e
      · have := ha'.1 z hz; omega
      · exact e
    · intro hz
      rcases List.mem_cons.1 ((h z).2 (by simp [hz])) with e | e
      · have := hb'.1 z hz; omega
      · exact e
/-- What is kept is kept again. -/
theorem keep_again {l : List St} (h : stP l) {a b c : Int} {r : List Int} (hr : KAllR l a b c r) : KAllR (l.filter fun x => decide (x.s ∈ r)) a b c r := by
  obtain rfl : r = sn l (kA l a b c) := by
    rcases hr with ⟨_, h⟩ | ⟨h', _⟩
    · exact h
    · exact absurd h h'
  obtain ⟨K, hKd⟩ : ∃ K, K = l.filter fun x => decide (x.s ∈ sn l (kA l a b c)) := ⟨_, rfl⟩
  rw [← hKd]
  have hK : K.Sublist l := hKd ▸ List.filter_sublist
  have hP : stP K := ⟨⟨fun y hy => h.1.1 y (hK.subset hy), h.1.2.sublist hK⟩, Nat.le_trans hK.length_le h.2⟩
  have hidx : ∀ j x, K[j]? = some x → j ∈ kA K a b c := fun j x hj => by
    have hx := List.mem_of_getElem? hj
    rw [hKd] at hx
    obtain ⟨hx1, hx2⟩ := List.mem_filter.1 hx
    obtain ⟨i, hi⟩ := List.getElem?_of_mem hx1
    rw [decide_eq_true_eq, ← snapAt_get hi, sn_mem h.1 (fun i hi => kA_lt hi) (get_lt hi)] at hx2
    rcases kA_mem.1 hx2 with h1 | h1 | h1
    · exact kA_mem.2 (.inl (kD_less h.1 hK (.inl rfl) hi hj h1))
    · exact kA_mem.2 (.inr (.inl (kD_less h.1 hK (.inr (.inl rfl)) hi hj h1)))
    · exact kA_mem.2 (.inr (.inr (kD_less h.1 hK (.inr (.inr rfl)) hi hj h1)))
  refine .inl ⟨hP, asc_same (sn_asc h.1 (fun i hi => kA_lt hi) (kA_asc l a b c)) (sn_asc hP.1 (fun i hi => kA_lt hi) (kA_asc K a b c)) fun s => ?_⟩
  constructor
  · intro hs
    obtain ⟨i, hi, rfl⟩ := List.mem_map.1 hs
    have hlt := kA_lt hi
    have hi' := List.getElem?_eq_getElem hlt
    have hx : l[i] ∈ K := by
      rw [hKd]
      refine List.mem_filter.2 ⟨List.getElem_mem hlt, ?_⟩
      rw [decide_eq_true_eq, ← snapAt_get hi']; exact hs
    obtain ⟨j, hj⟩ := List.getElem?_of_mem hx
    exact List.mem_map.2 ⟨j, hidx j _ hj, by rw [snapAt_get hj, snapAt_get hi']⟩
  · intro hs
    obtain ⟨j, hj, rfl⟩ := List.mem_map.1 hs
    have hj' := List.getElem?_eq_getElem (kA_lt hj)
    have hx := List.mem_of_getElem? hj'
    rw [snapAt_get hj']
    revert hx
    generalize K[j]'(kA_lt hj) = y
    intro hx
    rw [hKd] at hx
    have := (List.mem_filter.1 hx).2
    simpa using this
/-- The newest one is kept by a part that keeps something. -/
theorem kD_new {l : List St} {span m : Int} (hl : 0 < l.length) : l.length - 1 ∈ kD l span m ↔ 0 < m := by
  rw [kD_iff (by omega)]
  have e : l.length - 1 + 1 = l.length := by omega
  rw [e, tl_end]
  have : endS l span (l.length - 1) = true := by
    unfold endS; simp [e]
  simp [this]
theorem kA_new {l : List St} {a b c : Int} (hl : 0 < l.length) : l.length - 1 ∈ kA l a b c ↔ 0 < a ∨ 0 < b ∨ 0 < c := by
  rw [kA_mem, kD_new hl, kD_new hl, kD_new hl]
theorem kA_zero {l : List St} {a b c : Int} (ha : a ≤ 0) (hb : b ≤ 0) (hc : c ≤ 0) : kA l a b c = [] := by
  refine List.eq_nil_iff_forall_not_mem.2 fun i hi => ?_
  have hl := kA_lt hi
  rcases kA_mem.1 hi with h | h | h <;> (have := ((kD_iff hl).1 h).2; omega)
/-- A rule that keeps more keeps all that a lesser one does. -/
theorem kD_more {l : List St} {span m m' : Int} (h : m ≤ m') {i : Nat} (hi : i ∈ kD l span m) : i ∈ kD l span m' := by
  have hl := kD_lt hi
  have := (kD_iff hl).1 hi
  exact (kD_iff hl).2 ⟨this.1, by omega⟩
theorem kA_more {l : List St} {a b c a' b' c' : Int} (h1 : a ≤ a') (h2 : b ≤ b') (h3 : c ≤ c') {i : Nat} (hi : i ∈ kA l a b c) : i ∈ kA l a' b' c' := by
  rcases kA_mem.1 hi with h | h | h
  · exact kA_mem.2 (.inl (kD_more h1 h))
  · exact kA_mem.2 (.inr (.inl (kD_more h2 h)))
  · exact kA_mem.2 (.inr (.inr (kD_more h3 h)))
theorem kA_more_len {l : List St} {a b c a' b' c' : Int} (h1 : a ≤ a') (h2 : b ≤ b') (h3 : c ≤ c') : (kA l a b c).length ≤ (kA l a' b' c').length :=
  nodup_len ((kA_asc l a b c).imp fun h => Nat.ne_of_lt h) fun _ hx => kA_more h1 h2 h3 hx
/-- What goes. -/
def kG (l : List St) (a b c : Int) : List Nat := (List.range l.length).filter fun i => !inAll l a b c i
def KGoneR (l : List St) (a b c : Int) (r : List Int) : Prop := (stP l ∧ r = sn l (kG l a b c)) ∨ (¬ stP l ∧ r = [])
theorem KGoneR_total (l : List St) (a b c : Int) : ∃ r, KGoneR l a b c r := by
  by_cases h : stP l
  · exact ⟨_, .inl ⟨h, rfl⟩⟩
  · exact ⟨_, .inr ⟨h, rfl⟩⟩
theorem filter_len {α : Type} (p : α → Bool) : ∀ l : List α, (l.filter p).length + (l.filter fun x => !p x).length = l.length
  | [] => rfl
  | x :: l => by
    have := filter_len p l
    simp only [List.filter_cons, List.length_cons]
    cases p x <;> simp <;> omega
theorem kG_len (l : List St) (a b c : Int) : (kA l a b c).length + (kG l a b c).length = l.length := by
  have := filter_len (inAll l a b c) (List.range l.length)
  rw [List.length_range] at this
  exact this
theorem kG_lt {l : List St} {a b c : Int} {i : Nat} (h : i ∈ kG l a b c) : i < l.length := List.mem_range.1 (List.mem_filter.1 h).1
theorem kG_mem {l : List St} {a b c : Int} {i : Nat} (hi : i < l.length) : i ∈ kG l a b c ↔ ¬ i ∈ kA l a b c := by
  unfold kG kA
  rw [List.mem_filter, List.mem_filter, List.mem_range]
  simp [hi]
end Go.Proofs.Ytpdbohjgmghgkaa
