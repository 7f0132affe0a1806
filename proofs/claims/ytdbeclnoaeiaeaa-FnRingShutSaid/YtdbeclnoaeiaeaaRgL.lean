


/- Laws on rings, with no program in sight. -/
import Derived.Test.YtdbeclnoaeiaeaaRgG
import Derived.Test.YtdbeclnoaeiaeaaRgM
namespace Go.Proofs.Ytdbeclnoaeiaeaa
open Go.RowKit

theorem grP_up {n n' : Nat} {g : Gr} (h : grP n g) (hn : n ≤ n') : grP n' g := by
  obtain ⟨h1, h2, h3, h4, h5⟩ := h
  exact ⟨h1, h2, h3, by omega, by omega⟩
theorem grsP_up {n n' : Nat} {gs : List Gr} (h : grsP n gs) (hn : n ≤ n') : grsP n' gs := ⟨fun g hg => grP_up (h.1 g hg) hn, h.2⟩
theorem pw_map {gs : List Gr} : (gs.Pairwise fun a b => a.m < b.m) ↔ (gs.map Gr.m).Pairwise (· < ·) := by
  rw [List.pairwise_map]
theorem map_set_m {gs : List Gr} {k : Nat} {g y : Gr} (hk : gs[k]? = some g) (hy : y.m = g.m) : (gs.set k y).map Gr.m = gs.map Gr.m := by
  apply List.ext_getElem?
  intro i
  rw [List.getElem?_map, List.getElem?_map]
  by_cases h : k = i
  · subst h
    rw [List.getElem?_set_self (lt_of_some hk), hk]
    simp [hy]
  · rw [List.getElem?_set_ne h]
theorem insG_iff {g : Gr} : ∀ {xs : List Gr} {y : Gr}, y ∈ insG g xs ↔ y = g ∨ y ∈ xs
  | [], y => by show y ∈ [g] ↔ _; simp
  | x :: xs, y => by
    show y ∈ (if g.m < x.m then g :: x :: xs else x :: insG g xs) ↔ _
    split
    · simp
    · rw [List.mem_cons, insG_iff, List.mem_cons]
      constructor
      · rintro (h | h | h)
        · exact .inr (.inl h)
        · exact .inl h
        · exact .inr (.inr h)
      · rintro (h | h | h)
        · exact .inr (.inl h)
        · exact .inl h
        · exact .inr (.inr h)
theorem insG_asc {g : Gr} : ∀ {xs : List Gr}, (xs.Pairwise fun a b => a.m < b.m) → (∀ y ∈ xs, ¬ y.m = g.m) → (insG g xs).Pairwise fun a b => a.m < b.m
  | [], _, _ => List.pairwise_singleton _ _
  | x :: xs, h, hn => by
    show (if g.m < x.m then g :: x :: xs else x :: insG g xs).Pairwise _
    have h' := List.pairwise_cons.1 h
    split
    · rename_i hlt
      refine List.pairwise_cons.2 ⟨fun y hy => ?_, h⟩
      rcases List.mem_cons.1 hy with rfl | hy
      · exact hlt
      · have := h'.1 y hy; omega
    · rename_i hlt
      refine List.pairwise_cons.2 ⟨fun y hy => ?_, insG_asc h'.2 fun y hy => hn y (by simp [hy])⟩
      rcases insG_iff.1 hy with rfl | hy
      · have := hn x (by simp); omega
      · exact h'.1 y hy

theorem turn_ring {r r' : Rg} {key : Int} (h : RTurn r key r' true) : ringP r ∧ (1 ≤ key ∧ key ≤ 99) ∧ r' = ⟨r.keys ++ [key], r.grs⟩ ∧ ringP r' := by
  rcases h with ⟨_, h1, h2, rfl⟩ | ⟨h, _⟩ | ⟨h, _⟩
  · refine ⟨h1.1, h1.2, rfl, keysP_snoc.2 ⟨h1.1.1, h1.2, h2.1⟩, ?_, ?_, ?_⟩
    · exact grsP_up h1.1.2.1 (by simp)
    · simp
    · have := h2.2; simp; omega
  · cases h
  · cases h
theorem shut_ring {r r' : Rg} {m key : Int} (h : RShut r m key r' true) : ringP r ∧ (1 ≤ key ∧ key ≤ 99) ∧ ringP r' ∧ ∃ k g, r.grs[k]? = some g ∧ g.m = m ∧ g.t = 0 ∧ r' = ⟨r.keys ++ [key], r.grs.set k ⟨g.m, g.f, r.keys.length⟩⟩ := by
  rcases h with ⟨_, h1, h2, k, g, hk, hm, ht, rfl⟩ | ⟨h, _⟩ | ⟨h, _⟩
  · refine ⟨h1.1, h1.2, ⟨keysP_snoc.2 ⟨h1.1.1, h1.2, h2.1⟩, ⟨fun y hy => ?_, ?_⟩, ?_, ?_⟩, k, g, hk, hm, ht, rfl⟩
    · have hl : (r.keys ++ [key]).length = r.keys.length + 1 := by simp
      show grP (r.keys ++ [key]).length y
      rw [hl]
      rcases List.mem_or_eq_of_mem_set hy with hy | rfl
      · exact grP_up (h1.1.2.1.1 y hy) (by omega)
      · obtain ⟨a1, a2, a3, a4, _⟩ := h1.1.2.1.1 g (List.mem_of_getElem? hk)
        refine ⟨a1, a2, a3, ?_, .inr ⟨?_, ?_⟩⟩
        · show g.f ≤ ((r.keys.length + 1 : Nat) : Int); omega
        · show g.f ≤ ((r.keys.length : Nat) : Int); omega
        · show ((r.keys.length : Nat) : Int) ≤ ((r.keys.length + 1 : Nat) : Int); omega
    · show (r.grs.set k ⟨g.m, g.f, r.keys.length⟩).Pairwise fun a b => a.m < b.m
      rw [pw_map, map_set_m hk (y := ⟨g.m, g.f, r.keys.length⟩) rfl, ← pw_map]; exact h1.1.2.1.2
    · simp
    · have := h2.2; simp; omega
  · cases h
  · cases h
theorem let_ring {r r' : Rg} {m : Int} {all : Bool} (h : RLet r m all r' true) : ringP r ∧ (1 ≤ m ∧ m ≤ 4) ∧ (∀ g ∈ r.grs, ¬ g.m = m) ∧ r' = ⟨r.keys, insG ⟨m, letFrom all r, 0⟩ r.grs⟩ ∧ ringP r' := by
  rcases h with ⟨_, h1, h2, rfl⟩ | ⟨h, _⟩ | ⟨h, _⟩
  · refine ⟨h1.1, h1.2, h2, rfl, h1.1.1, ⟨fun y hy => ?_, ?_⟩, h1.1.2.2.1, h1.1.2.2.2⟩
    · rcases insG_iff.1 hy with rfl | hy
      · have := h1.1.2.2.1
        refine ⟨h1.2.1, h1.2.2, ?_, ?_, .inl rfl⟩
        · show 1 ≤ letFrom all r; unfold letFrom; split <;> omega
        · show letFrom all r ≤ (r.keys.length : Int); unfold letFrom; split <;> omega
      · exact h1.1.2.1.1 y hy
    · exact insG_asc h1.1.2.1.2 h2
  · cases h
  · cases h

theorem cnt_congr {r r' : Rg} {m : Int} : ∀ {n c : Nat}, (∀ e : Nat, 1 ≤ e → e ≤ n → (keyP r m e ↔ keyP r' m e)) → cntIs r m n c → cntIs r' m n c
  | 0, _, _, h => h
  | n + 1, c, he, ⟨c', h', h⟩ => by
    refine ⟨c', cnt_congr (fun e h1 h2 => he e h1 (by omega)) h', ?_⟩
    have := he (n + 1) (by omega) (by omega)
    rcases h with ⟨h1, h2⟩ | ⟨h1, h2⟩
    · exact .inl ⟨this.1 h1, h2⟩
    · exact .inr ⟨fun h => h1 (this.2 h), h2⟩
theorem cnt_all {r : Rg} {m : Int} : ∀ {n : Nat}, (∀ e : Nat, 1 ≤ e → e ≤ n → keyP r m e) → cntIs r m n n
  | 0, _ => rfl
  | n + 1, he => ⟨n, cnt_all fun e h1 h2 => he e h1 (by omega), .inl ⟨he (n + 1) (by omega) (by omega), rfl⟩⟩
theorem cnt_none {r : Rg} {m : Int} : ∀ {n : Nat}, (∀ e : Nat, 1 ≤ e → e ≤ n → ¬ keyP r m e) → cntIs r m n 0
  | 0, _ => rfl
  | n + 1, he => ⟨0, cnt_none fun e h1 h2 => he e h1 (by omega), .inr ⟨he (n + 1) (by omega) (by omega), rfl⟩⟩

/-- A grant without an end. -/
def openP (r : Rg) (m : Int) : Prop := ∃ g ∈ r.grs, g.m = m ∧ g.t = 0
/-- Whether one of the first j grants is a machine's, without an end. -/
def opTo (r : Rg) (m : Int) (j : Nat) (b : Bool) : Prop := b = true ↔ ∃ g ∈ r.grs.take j, g.m = m ∧ g.t = 0
theorem opTo_step {r : Rg} {m : Int} {j : Nat} {b : Bool} {x : Gr} (h : opTo r m j b) (hx : r.grs[j]? = some x) {b' : Bool} (hb : b' = true ↔ b = true ∨ (x.m = m ∧ x.t = 0)) : opTo r m (j + 1) b' := by
  unfold opTo at *
  rw [hb, h, take_succ hx]
  constructor
  · rintro (⟨y, hy, hg⟩ | hg)
    · exact ⟨y, List.mem_append_left _ hy, hg⟩
    · exact ⟨x, by simp, hg⟩
  · rintro ⟨y, hy, hg⟩
    rcases List.mem_append.1 hy with hy | hy
    · exact .inl ⟨y, hy, hg⟩
    · rw [List.mem_singleton.1 hy] at hg; exact .inr hg
theorem turn_key {r r' : Rg} {key : Int} (h : RTurn r key r' true) {m e k : Int} {ok : Bool} (he : e ≤ r.keys.length) (hk : RKey r m e k ok) : RKey r' m e k ok := by
  obtain ⟨hr, _, rfl, hr'⟩ := turn_ring h
  have hl : (r.keys ++ [key]).length = r.keys.length + 1 := by simp
  rcases hk with ⟨h1, h2, h3⟩ | ⟨h1, h2, h3⟩
  · refine .inl ⟨h1, ⟨hr', ⟨h2.2.1.1, ?_⟩, h2.2.2⟩, ?_⟩
    · show e ≤ (((r.keys ++ [key]).length : Nat) : Int)
      rw [hl]; omega
    · show (r.keys ++ [key])[(e - 1).toNat]? = some k
      rw [List.getElem?_append_left (lt_of_some h3)]; exact h3
  · refine .inr ⟨h1, h2, fun ⟨_, h4, h5⟩ => h3 ⟨hr, ⟨h4.1, he⟩, h5⟩⟩
theorem turn_open {r r' : Rg} {key : Int} (h : RTurn r key r' true) {m k : Int} {ok : Bool} (hk : RKey r' m (r.keys.length + 1) k ok) : ok = true ↔ openP r m := by
  obtain ⟨hr, _, rfl, hr'⟩ := turn_ring h
  have hl : (r.keys ++ [key]).length = r.keys.length + 1 := by simp
  rw [hk.ok_iff]
  constructor
  · rintro ⟨_, _, g, hg, hm, hf, ht⟩
    refine ⟨g, hg, hm, ?_⟩
    have hp := hr.2.1.1 g hg
    obtain ⟨_, _, _, _, h5⟩ := hp
    omega
  · rintro ⟨g, hg, hm, ht⟩
    have hp := hr.2.1.1 g hg
    obtain ⟨_, _, _, h4, _⟩ := hp
    refine ⟨hr', ⟨by omega, ?_⟩, g, hg, hm, by omega, .inl ht⟩
    show (r.keys.length : Int) + 1 ≤ (((r.keys ++ [key]).length : Nat) : Int)
    rw [hl]; omega
/-- No key of an epoch behind its end. -/
theorem shut_new {r r' : Rg} {m key : Int} (h : RShut r m key r' true) {e : Int} (he : r.keys.length < e) : ¬ keyP r' m e := by
  obtain ⟨hr, _, hr', k, g, hk, hm, ht, rfl⟩ := shut_ring h
  rintro ⟨y, hy, hym, hyf, hyt⟩
  have hmem : (⟨g.m, g.f, r.keys.length⟩ : Gr) ∈ r.grs.set k ⟨g.m, g.f, r.keys.length⟩ := List.mem_of_getElem? (List.getElem?_set_self (lt_of_some hk))
  obtain ⟨i, hi⟩ := List.mem_iff_getElem?.1 hy
  obtain ⟨j, hj⟩ := List.mem_iff_getElem?.1 hmem
  obtain ⟨_, rfl⟩ := grs_one hr'.2.1 hi hj (by rw [hym]; exact hm.symm)
  have h1 := hr.2.2.1
  rcases hyt with h2 | h2
  · have : ((r.keys.length : Nat) : Int) = 0 := h2
    omega
  · have : e ≤ ((r.keys.length : Nat) : Int) := h2
    omega
/-- Elder keys stay. -/
theorem shut_old {r r' : Rg} {m key : Int} (h : RShut r m key r' true) {e : Int} (h1 : e ≤ r.keys.length) (o : Int) : keyP r o e ↔ keyP r' o e := by
  obtain ⟨hr, _, hr', k, g, hk, hm, ht, rfl⟩ := shut_ring h
  have hmem : (⟨g.m, g.f, r.keys.length⟩ : Gr) ∈ r.grs.set k ⟨g.m, g.f, r.keys.length⟩ := List.mem_of_getElem? (List.getElem?_set_self (lt_of_some hk))
  constructor
  · rintro ⟨y, hy, hym, hyf, hyt⟩
    obtain ⟨i, hi⟩ := List.mem_iff_getElem?.1 hy
    by_cases hik : i = k
    · subst hik
      rw [hk] at hi
      cases hi
      exact ⟨_, hmem, hym, hyf, .inr h1⟩
    · exact ⟨y, List.mem_of_getElem? (by rw [List.getElem?_set_ne (Ne.symm hik)]; exact hi), hym, hyf, hyt⟩
  · rintro ⟨y, hy, hym, hyf, hyt⟩
    rcases List.mem_or_eq_of_mem_set hy with hy | rfl
    · exact ⟨y, hy, hym, hyf, hyt⟩
    · exact ⟨g, List.mem_of_getElem? hk, hym, hyf, .inl ht⟩
theorem shut_open {r r' : Rg} {m key : Int} (h : RShut r m key r' true) {o k : Int} {ok : Bool} (ho : o ≠ m) (hk : RKey r' o (r.keys.length + 1) k ok) : ok = true ↔ openP r o := by
  obtain ⟨hr, _, hr', i, g, hi, hm, ht, rfl⟩ := shut_ring h
  have hl : (r.keys ++ [key]).length = r.keys.length + 1 := by simp
  rw [hk.ok_iff]
  constructor
  · rintro ⟨_, _, y, hy, hym, hyf, hyt⟩
    rcases List.mem_or_eq_of_mem_set hy with hy | rfl
    · refine ⟨y, hy, hym, ?_⟩
      obtain ⟨_, _, _, _, h5⟩ := hr.2.1.1 y hy
      omega
    · exact absurd (hym.symm.trans hm) ho
  · rintro ⟨y, hy, hym, hyt⟩
    obtain ⟨j, hj⟩ := List.mem_iff_getElem?.1 hy
    have hij : i ≠ j := by
      rintro rfl
      rw [hi] at hj
      cases hj
      exact ho (hym.symm.trans hm)
    obtain ⟨_, _, _, h4, _⟩ := hr.2.1.1 y hy
    refine ⟨hr', ⟨by omega, ?_⟩, y, List.mem_of_getElem? (by rw [List.getElem?_set_ne hij]; exact hj), hym, by omega, .inl hyt⟩
    show (r.keys.length : Int) + 1 ≤ (((r.keys ++ [key]).length : Nat) : Int)
    rw [hl]; omega
theorem shut_many {r r' : Rg} {m key : Int} (h : RShut r m key r' true) {n : Nat} (hn : RMany r m n) : RMany r' m n := by
  have h' := h
  obtain ⟨hr, _, hr', k, g, hk, hm, ht, rfl⟩ := shut_ring h
  rcases hn with ⟨_, hn⟩ | ⟨h0, _⟩
  · refine .inl ⟨hr', ?_⟩
    show cntIs _ m (r.keys ++ [key]).length n
    rw [List.length_append]
    refine ⟨n, cnt_congr (fun e _ h2 => shut_old h' (by omega) m) hn, .inr ⟨shut_new h' (by omega), rfl⟩⟩
  · exact absurd hr h0
/-- What is shut is not shut again, nor let in. -/
theorem shut_twice {r r' r2 : Rg} {m key key2 : Int} {ok2 : Bool} (h : RShut r m key r' true) (hk2 : 1 ≤ key2 ∧ key2 ≤ 99) (h2 : RShut r' m key2 r2 ok2) : ok2 = false ∧ r2 = r' := by
  obtain ⟨hr, _, hr', k, g, hk, hm, ht, rfl⟩ := shut_ring h
  have hmem : (⟨g.m, g.f, r.keys.length⟩ : Gr) ∈ r.grs.set k ⟨g.m, g.f, r.keys.length⟩ := List.mem_of_getElem? (List.getElem?_set_self (lt_of_some hk))
  rcases h2 with ⟨_, _, _, i, y, hi, hym, hyt, _⟩ | ⟨h1, _, _, h3⟩ | ⟨_, h1, _⟩
  · exfalso
    obtain ⟨j, hj⟩ := List.mem_iff_getElem?.1 hmem
    obtain ⟨_, rfl⟩ := grs_one hr'.2.1 hi hj (by rw [hym]; exact hm.symm)
    have : ((r.keys.length : Nat) : Int) = 0 := hyt
    have := hr.2.2.1
    omega
  · exact ⟨h1, h3.symm⟩
  · exact absurd ⟨hr', hk2⟩ h1
theorem shut_let {r r' r2 : Rg} {m key : Int} {all ok2 : Bool} (h : RShut r m key r' true) (h2 : RLet r' m all r2 ok2) : ok2 = false ∧ r2 = r' := by
  obtain ⟨hr, _, hr', k, g, hk, hm, ht, rfl⟩ := shut_ring h
  have hmem : (⟨g.m, g.f, r.keys.length⟩ : Gr) ∈ r.grs.set k ⟨g.m, g.f, r.keys.length⟩ := List.mem_of_getElem? (List.getElem?_set_self (lt_of_some hk))
  obtain ⟨a1, a2, _⟩ := hr'.2.1.1 _ hmem
  rcases h2 with ⟨_, _, hno, _⟩ | ⟨h1, _, _, h3⟩ | ⟨_, h1, _⟩
  · exact absurd hm (hno ⟨g.m, g.f, r.keys.length⟩ hmem)
  · exact ⟨h1, h3.symm⟩
  · exact absurd ⟨hr', by rw [← hm]; exact a1, by rw [← hm]; exact a2⟩ h1
theorem let_key {r r' : Rg} {m : Int} {all : Bool} (h : RLet r m all r' true) (e : Int) : keyP r' m e ↔ letFrom all r ≤ e := by
  obtain ⟨_, _, hno, rfl, _⟩ := let_ring h
  constructor
  · rintro ⟨y, hy, hym, hyf, _⟩
    rcases insG_iff.1 hy with rfl | hy
    · exact hyf
    · exact absurd hym (hno y hy)
  · exact fun he => ⟨_, insG_iff.2 (.inl rfl), rfl, he, .inl rfl⟩
theorem let_other {r r' : Rg} {m o : Int} {all : Bool} (h : RLet r m all r' true) (ho : o ≠ m) (e : Int) : keyP r o e ↔ keyP r' o e := by
  obtain ⟨_, _, hno, rfl, _⟩ := let_ring h
  constructor
  · rintro ⟨y, hy, h1⟩
    exact ⟨y, insG_iff.2 (.inr hy), h1⟩
  · rintro ⟨y, hy, h1, h2⟩
    rcases insG_iff.1 hy with rfl | hy
    · exact absurd h1.symm ho
    · exact ⟨y, hy, h1, h2⟩
theorem let_many_other {r r' : Rg} {m o : Int} {all : Bool} (h : RLet r m all r' true) (ho : o ≠ m) {n : Nat} (hn : RMany r o n) : RMany r' o n := by
  have h' := h
  obtain ⟨hr, _, hno, rfl, hr'⟩ := let_ring h
  rcases hn with ⟨_, hn⟩ | ⟨h0, _⟩
  · exact .inl ⟨hr', cnt_congr (fun e _ _ => let_other h' ho e) hn⟩
  · exact absurd hr h0
theorem let_many {r r' : Rg} {m : Int} {all : Bool} (h : RLet r m all r' true) : RMany r' m (if all then r.keys.length else 1) := by
  have h' := h
  obtain ⟨hr, _, hno, rfl, hr'⟩ := let_ring h
  refine .inl ⟨hr', ?_⟩
  show cntIs _ m r.keys.length _
  have hpos := hr.2.2.1
  cases all with
  | true => exact cnt_all fun e h1 _ => (let_key h' e).2 (by unfold letFrom; simp; omega)
  | false =>
    obtain ⟨n, hn⟩ : ∃ n, r.keys.length = n + 1 := ⟨r.keys.length - 1, by omega⟩
    rw [hn]
    have h0 : cntIs ⟨r.keys, insG ⟨m, letFrom false r, 0⟩ r.grs⟩ m n 0 := cnt_none fun e _ h2 hk => by
      have := (let_key h' e).1 hk
      unfold letFrom at this
      simp at this; omega
    exact ⟨0, h0, .inl ⟨(let_key h' _).2 (by unfold letFrom; simp; omega), rfl⟩⟩
theorem let_again {r r' r2 : Rg} {m : Int} {all all2 ok2 : Bool} (h : RLet r m all r' true) (h2 : RLet r' m all2 r2 ok2) : ok2 = false ∧ r2 = r' := by
  obtain ⟨_, hm, hno, rfl, hr'⟩ := let_ring h
  rcases h2 with ⟨_, _, hno, _⟩ | ⟨h1, _, _, h3⟩ | ⟨_, h1, _⟩
  · exact absurd rfl (hno _ (insG_iff.2 (.inl rfl)))
  · exact ⟨h1, h3.symm⟩
  · exact absurd ⟨hr', hm⟩ h1
end Go.Proofs.Ytdbeclnoaeiaeaa
