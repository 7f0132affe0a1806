


/- Plain laws on the index of packs. -/
import Derived.Test.YtanppokbjladfaaDrIx
namespace Go.Proofs.Ytanppokbjladfaa

def nzS (l : List Sp) : Prop := ∀ x ∈ l, ¬ x.p = 0
theorem asc_ext : ∀ {a b : List Sp}, ascS a → ascS b → nzS a → nzS b → (∀ n, findS n a = findS n b) → a = b
  | [], [], _, _, _, _, _ => rfl
  | [], y :: b, _, _, _, hb, h => by
    have h1 := h y.n
    have h2 : findS y.n (y :: b) = if y.n = y.n then y.p else findS y.n b := rfl
    rw [if_pos rfl] at h2
    rw [h2] at h1
    exact absurd h1.symm (hb y (by simp))
  | x :: a, [], _, _, ha, _, h => by
    have h1 := h x.n
    have h2 : findS x.n (x :: a) = if x.n = x.n then x.p else findS x.n a := rfl
    rw [if_pos rfl] at h2
    rw [h2] at h1
    exact absurd h1 (ha x (by simp))
  | x :: a, y :: b, sa, sb, ha, hb, h => by
    have ca := List.pairwise_cons.1 sa
    have cb := List.pairwise_cons.1 sb
    have fx : findS x.n (x :: a) = x.p := by show (if x.n = x.n then x.p else findS x.n a) = x.p; rw [if_pos rfl]
    have fy : findS y.n (y :: b) = y.p := by show (if y.n = y.n then y.p else findS y.n b) = y.p; rw [if_pos rfl]
    have hxy : x.n = y.n := by
      rcases Int.lt_trichotomy x.n y.n with hlt | he | hlt
      · have h1 := h x.n
        rw [fx, findS_out (l := y :: b) fun z hz e => by
          rcases List.mem_cons.1 hz with rfl | hz
          · omega
          · have := cb.1 z hz; omega] at h1
        exact absurd h1 (ha x (by simp))
      · exact he
      · have h1 := h y.n
        rw [fy, findS_out (l := x :: a) fun z hz e => by
          rcases List.mem_cons.1 hz with rfl | hz
          · omega
          · have := ca.1 z hz; omega] at h1
        exact absurd h1.symm (hb y (by simp))
    have hp : x.p = y.p := by
      have h1 := h x.n
      rw [fx, hxy, fy] at h1
      exact h1
    obtain rfl := Sp.eq_of hxy hp
    rw [asc_ext ca.2 cb.2 (fun z hz => ha z (by simp [hz])) (fun z hz => hb z (by simp [hz])) fun n => ?_]
    by_cases hn : x.n = n
    · rw [findS_out (l := a) fun z hz e => by have := ca.1 z hz; omega, findS_out (l := b) fun z hz e => by have := cb.1 z hz; omega]
    · have h1 := h n
      have e1 : findS n (x :: a) = findS n a := by show (if x.n = n then x.p else findS n a) = _; rw [if_neg hn]
      have e2 : findS n (x :: b) = findS n b := by show (if x.n = n then x.p else findS n b) = _; rw [if_neg hn]
      rw [e1, e2] at h1
      exact h1
theorem find_putsAny {n : Int} : ∀ (Y L : List Sp), nzS Y → findS n (putsS Y L) = if findS n (putsS Y []) = 0 then findS n L else findS n (putsS Y [])
  | [], L, _ => by show findS n L = if (0 : Int) = 0 then _ else _; rw [if_pos rfl]
  | s :: Y, L, h => by
    have hY : nzS Y := fun x hx => h x (by simp [hx])
    have hs := h s (by simp)
    show findS n (putsS Y (putS s L)) = if findS n (putsS Y (putS s [])) = 0 then findS n L else findS n (putsS Y (putS s []))
    rw [find_putsAny Y (putS s L) hY, find_putsAny Y (putS s []) hY, findS_put, findS_put]
    by_cases h0 : findS n (putsS Y []) = 0
    · rw [if_pos h0, if_pos h0]
      by_cases hn : s.n = n
      · rw [if_pos hn, if_pos hn, if_neg hs]
      · rw [if_neg hn, if_neg hn]
        show _ = if (0 : Int) = 0 then _ else _
        rw [if_pos rfl]
    · rw [if_neg h0, if_neg h0, if_neg h0]
theorem puts_nz : ∀ {Y L : List Sp}, nzS Y → nzS L → nzS (putsS Y L)
  | [], _, _, h => h
  | s :: Y, L, h, hl => puts_nz (Y := Y) (fun x hx => h x (by simp [hx])) fun x hx => by
    rcases putS_mem hx with rfl | hx
    · exact h _ (by simp)
    · exact hl x hx
theorem puts_asc : ∀ {Y L : List Sp}, ascS L → ascS (putsS Y L)
  | [], _, h => h
  | s :: Y, L, h => puts_asc (Y := Y) (putS_asc h)
theorem puts_app : ∀ (X Y L : List Sp), putsS (X ++ Y) L = putsS Y (putsS X L)
  | [], _, _ => rfl
  | s :: X, Y, L => puts_app X Y (putS s L)
theorem find_puts' {n : Int} : ∀ {a l : List Sp}, (∀ x ∈ a, ¬ x.p = 0) → ascS a → findS n (putsS a l) = if findS n a = 0 then findS n l else findS n a
  | [], l, _, _ => by show findS n l = if (0 : Int) = 0 then _ else _; rw [if_pos rfl]
  | s :: a, l, h, ha => by
    have ha' := List.pairwise_cons.1 ha
    show findS n (putsS a (putS s l)) = if (if s.n = n then s.p else findS n a) = 0 then findS n l else (if s.n = n then s.p else findS n a)
    rw [find_puts' (fun x hx => h x (by simp [hx])) ha'.2, findS_put]
    have hp := h s (by simp)
    by_cases he : s.n = n
    · rw [if_pos he, if_pos he, findS_out (l := a) fun x hx e => by have := ha'.1 x hx; omega, if_pos rfl, if_neg hp]
    · rw [if_neg he, if_neg he]
theorem puts_puts {Y L : List Sp} (hY : nzS Y) (hL : nzS L) (ha : ascS L) : putsS (putsS Y []) L = putsS Y L := by
  have n0 : nzS ([] : List Sp) := fun _ h => by cases h
  have z1 : nzS (putsS Y []) := puts_nz hY n0
  have a1 : ascS (putsS Y []) := puts_asc List.Pairwise.nil
  refine asc_ext (puts_asc ha) (puts_asc ha) (puts_nz z1 hL) (puts_nz hY hL) fun n => ?_
  rw [find_putsAny _ L z1, find_putsAny Y L hY]
  have := find_putsAny (n := n) (putsS Y []) [] z1
  have e : findS n (putsS (putsS Y []) []) = findS n (putsS Y []) := by
    rw [find_puts' (fun x hx => z1 x hx) a1]
    split
    · rename_i h0; rw [h0]; rfl
    · rfl
  rw [e]
theorem ip_all {xs : List Pk} (h : IxPks xs) (h0 : ∀ x0, xs[0]? = some x0 → ¬ x0.no = 0) : ∀ s ∈ spots xs, spP s := fun s hs => by
  obtain ⟨p, hp, hs⟩ := List.mem_flatMap.1 hs
  obtain ⟨y, hy, rfl⟩ := List.mem_map.1 hs
  obtain ⟨a, b, c⟩ := h.1 p hp
  obtain ⟨i, hi⟩ := List.getElem?_of_mem hp
  have hno : 1 ≤ p.no := by
    rcases h.2.2 i p hi with rfl | h1
    · have := h0 p hi; omega
    · exact h1
  have := a y hy
  unfold spP
  dsimp only
  omega
theorem iof_of {xs : List Pk} (h : ∀ s ∈ spots xs, spP s) : IOf xs (putsS (spots xs) []) := .inl ⟨h, rfl⟩
theorem ip_law {xs : List Pk} {r : List Sp} (h : ∀ s ∈ spots xs, spP s) (hr : IOf xs r) (k : Nat) : ∃ a b, IOf (xs.drop k) a ∧ IOf (xs.take k) b ∧ IMerge a b r := by
  have e : spots xs = spots (xs.take k) ++ spots (xs.drop k) := by
    unfold spots
    rw [← List.flatMap_append, List.take_append_drop]
  have h1 : ∀ s ∈ spots (xs.take k), spP s := fun s hs => h s (by rw [e]; exact List.mem_append_left _ hs)
  have h2 : ∀ s ∈ spots (xs.drop k), spP s := fun s hs => h s (by rw [e]; exact List.mem_append_right _ hs)
  have nz : ∀ {l : List Sp}, (∀ s ∈ l, spP s) → nzS l := fun hl s hs => by have := hl s hs; unfold spP at this; omega
  have n0 : nzS ([] : List Sp) := fun _ h => by cases h
  refine ⟨_, _, iof_of h2, iof_of h1, .inl ⟨⟨(iof_of h2).ix, (iof_of h1).ix⟩, ?_⟩⟩
  rw [puts_puts (nz h2) (puts_nz (nz h1) n0) (puts_asc List.Pairwise.nil), ← puts_app, ← e]
  rcases hr with ⟨_, h⟩ | ⟨h', _⟩
  · exact h
  · exact absurd h h'
end Go.Proofs.Ytanppokbjladfaa
