


/- Laws on kept snapshots, with no program in sight. -/
import Derived.Test.YtpdbohjgmghgkaaBase
namespace Go.Proofs.Ytpdbohjgmghgkaa

structure St where
  s : Int
  d : Int
/-- Snapshots with their days: in order, and not too many. -/
def stP1 (x : St) : Prop := (1 ≤ x.s ∧ x.s ≤ 20) ∧ (0 ≤ x.d ∧ x.d ≤ 99)
def stR (a b : St) : Prop := a.s < b.s ∧ a.d ≤ b.d
def stA (l : List St) : Prop := (∀ x ∈ l, stP1 x) ∧ l.Pairwise stR
def stP (l : List St) : Prop := stA l ∧ l.length ≤ 12
def dayAt (l : List St) (i : Nat) : Int := (l[i]?.map St.d).getD 0
def snapAt (l : List St) (i : Nat) : Int := (l[i]?.map St.s).getD 0
/-- Is a snapshot the last one of its span? -/
def endS (l : List St) (span : Int) (i : Nat) : Bool := decide (span = 0) || decide (i + 1 = l.length) || decide (¬ (dayAt l (i + 1)).tdiv span = (dayAt l i).tdiv span)
/-- Which of the first n are. -/
def ids (l : List St) (span : Int) (n : Nat) : List Nat := (List.range n).filter (endS l span)
def lastN {α : Type} (m : Int) (l : List α) : List α := l.drop (l.length - m.toNat)
def kD (l : List St) (span m : Int) : List Nat := lastN m (ids l span l.length)
def inAll (l : List St) (a b c : Int) (i : Nat) : Bool := decide (i ∈ kD l 0 a) || decide (i ∈ kD l 1 b) || decide (i ∈ kD l 7 c)
def kA (l : List St) (a b c : Int) : List Nat := (List.range l.length).filter (inAll l a b c)
def sn (l : List St) (is : List Nat) : List Int := is.map (snapAt l)

theorem snapAt_get {l : List St} {i : Nat} {x : St} (h : l[i]? = some x) : snapAt l i = x.s := by simp [snapAt, h]
theorem dayAt_get {l : List St} {i : Nat} {x : St} (h : l[i]? = some x) : dayAt l i = x.d := by simp [dayAt, h]
theorem ids_snoc (l : List St) (span : Int) (n : Nat) : ids l span (n + 1) = ids l span n ++ if endS l span n then [n] else [] := by
  unfold ids
  rw [List.range_succ, List.filter_append]
  congr 1
  cases h : endS l span n <;> simp [h]
theorem ids_lt {l : List St} {span : Int} {n i : Nat} (h : i ∈ ids l span n) : i < n := List.mem_range.1 (List.mem_filter.1 h).1
theorem ids_asc (l : List St) (span : Int) (n : Nat) : (ids l span n).Pairwise (· < ·) := List.Pairwise.sublist List.filter_sublist List.pairwise_lt_range
theorem ids_len (l : List St) (span : Int) (n : Nat) : (ids l span n).length ≤ n := by
  have := List.length_filter_le (endS l span) (List.range n)
  rw [List.length_range] at this
  exact this
theorem lastN_sub {α : Type} (m : Int) (l : List α) : (lastN m l).Sublist l := List.drop_sublist _ _
theorem lastN_len {α : Type} (m : Int) (l : List α) : (lastN m l).length ≤ m.toNat := by
  unfold lastN
  rw [List.length_drop]; omega
theorem lastN_map {α β : Type} (f : α → β) (m : Int) (l : List α) : lastN m (l.map f) = (lastN m l).map f := by
  unfold lastN
  rw [List.length_map, List.map_drop]
theorem lastN_all {α : Type} {m : Int} {l : List α} (h : l.length ≤ m.toNat) : lastN m l = l := by
  unfold lastN
  rw [Nat.sub_eq_zero_of_le h]; rfl
theorem lastN_none {α : Type} {m : Int} {l : List α} (h : m ≤ 0) : lastN m l = [] := by
  unfold lastN
  have : m.toNat = 0 := by omega
  rw [this, Nat.sub_zero, List.drop_length]
/-- The last ones, taken from behind. -/
theorem lastN_app {α : Type} {m : Int} {a b : List α} (h : (b.length : Int) = m) : lastN m (a ++ b) = b := by
  unfold lastN
  have : (a ++ b).length - m.toNat = a.length := by rw [List.length_append]; omega
  rw [this, List.drop_left]
theorem kD_sub (l : List St) (span m : Int) : (kD l span m).Sublist (ids l span l.length) := lastN_sub _ _
theorem kD_lt {l : List St} {span m : Int} {i : Nat} (h : i ∈ kD l span m) : i < l.length := ids_lt ((kD_sub l span m).subset h)
theorem snap_lt {l : List St} (h : stA l) {i j : Nat} (hi : i < j) (hj : j < l.length) : snapAt l i < snapAt l j := by
  have h1 := (List.pairwise_iff_getElem.1 h.2) i j (by omega) hj hi
  rw [snapAt_get (List.getElem?_eq_getElem (by omega : i < l.length)), snapAt_get (List.getElem?_eq_getElem hj)]
  exact h1.1
theorem day_le {l : List St} (h : stA l) {i j : Nat} (hi : i ≤ j) (hj : j < l.length) : dayAt l i ≤ dayAt l j := by
  rcases Nat.lt_or_ge i j with hlt | hge
  · have h1 := (List.pairwise_iff_getElem.1 h.2) i j (by omega) hj hlt
    rw [dayAt_get (List.getElem?_eq_getElem (by omega : i < l.length)), dayAt_get (List.getElem?_eq_getElem hj)]
    exact h1.2
  · obtain rfl : i = j := by omega
    exact Int.le_refl _
theorem snap_inj {l : List St} (h : stA l) {i j : Nat} (hi : i < l.length) (hj : j < l.length) (e : snapAt l i = snapAt l j) : i = j := by
  rcases Nat.lt_trichotomy i j with h1 | h1 | h1
  · have := snap_lt h h1 hj; omega
  · exact h1
  · have := snap_lt h h1 hi; omega
theorem sn_mem {l : List St} (h : stA l) {is : List Nat} (his : ∀ i ∈ is, i < l.length) {i : Nat} (hi : i < l.length) : snapAt l i ∈ sn l is ↔ i ∈ is := by
  unfold sn
  constructor
  · intro hm
    obtain ⟨j, hj, e⟩ := List.mem_map.1 hm
    exact snap_inj h (his j hj) hi e ▸ hj
  · exact fun hm => List.mem_map.2 ⟨i, hm, rfl⟩
theorem kA_lt {l : List St} {a b c : Int} {i : Nat} (h : i ∈ kA l a b c) : i < l.length := List.mem_range.1 (List.mem_filter.1 h).1
theorem ids_zero (l : List St) (n : Nat) : ids l 0 n = List.range n := by
  unfold ids
  exact List.filter_eq_self.2 fun i _ => by simp [endS]
theorem kA_none (l : List St) : kA l 0 0 0 = [] := by
  unfold kA
  exact List.filter_eq_nil_iff.2 fun i _ => by simp [inAll, kD, lastN_none]
/-- How many are kept. -/
theorem filter_or {α : Type} (p q : α → Bool) : ∀ l : List α, (l.filter fun x => p x || q x).length ≤ (l.filter p).length + (l.filter q).length
  | [] => by simp
  | x :: l => by
    have := filter_or p q l
    simp only [List.filter_cons]
    cases p x <;> cases q x <;> simp <;> omega
theorem nodup_len : ∀ {a s : List Nat}, a.Nodup → (∀ x ∈ a, x ∈ s) → a.length ≤ s.length
  | [], _, _, _ => Nat.zero_le _
  | x :: a, s, hn, h => by
    have hx := h x (by simp)
    have h' := List.nodup_cons.1 hn
    have := nodup_len (a := a) (s := s.erase x) h'.2 fun y hy => (List.mem_erase_of_ne (fun e : y = x => h'.1 (e ▸ hy))).2 (h y (by simp [hy]))
    rw [List.length_erase_of_mem hx] at this
    have := List.length_pos_of_mem hx
    simp only [List.length_cons]; omega
theorem filter_mem_len {L : List Nat} (hL : L.Nodup) (s : List Nat) : (L.filter fun i => decide (i ∈ s)).length ≤ s.length := by
  have h1 : (L.filter fun i => decide (i ∈ s)).Nodup := hL.sublist List.filter_sublist
  have h2 : ∀ x ∈ L.filter (fun i => decide (i ∈ s)), x ∈ s := fun x hx => by simpa using (List.mem_filter.1 hx).2
  exact nodup_len h1 h2
theorem kD_len (l : List St) (span : Int) {m : Int} (hm : 0 ≤ m) : ((kD l span m).length : Int) ≤ m := by
  have := lastN_len m (ids l span l.length)
  unfold kD
  omega
theorem kA_len (l : List St) {a b c : Int} (ha : 0 ≤ a) (hb : 0 ≤ b) (hc : 0 ≤ c) : ((kA l a b c).length : Int) ≤ a + b + c ∧ (kA l a b c).length ≤ l.length := by
  have h1 := kD_len l 0 ha
  have h2 := kD_len l 1 hb
  have h3 := kD_len l 7 hc
  have hn : (List.range l.length).Nodup := List.nodup_range
  have f1 := filter_mem_len hn (kD l 0 a)
  have f2 := filter_mem_len hn (kD l 1 b)
  have f3 := filter_mem_len hn (kD l 7 c)
  have g1 := filter_or (fun i => decide (i ∈ kD l 0 a) || decide (i ∈ kD l 1 b)) (fun i => decide (i ∈ kD l 7 c)) (List.range l.length)
  have g2 := filter_or (fun i => decide (i ∈ kD l 0 a)) (fun i => decide (i ∈ kD l 1 b)) (List.range l.length)
  have hk : (kA l a b c).length = (List.filter (fun x => (decide (x ∈ kD l 0 a) || decide (x ∈ kD l 1 b)) || decide (x ∈ kD l 7 c)) (List.range l.length)).length := rfl
  have := List.length_filter_le (inAll l a b c) (List.range l.length)
  rw [List.length_range] at this
  exact ⟨by omega, this⟩
end Go.Proofs.Ytpdbohjgmghgkaa
