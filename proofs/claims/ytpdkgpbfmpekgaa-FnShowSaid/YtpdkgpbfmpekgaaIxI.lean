


/- The program's indexes: trees of lists, merged, looked up. -/
import Derived.Test.YtpdkgpbfmpekgaaIxM
namespace Go.Proofs.Ytpdkgpbfmpekgaa
open Go.RowKit

/-- Lists, each in a slice that can be read. -/
def SlAll (w : World) (lo hi : Nat) (ls : List (Value × List Sp)) : Prop := ∀ p ∈ ls, RSl RSp 2 w lo hi p.2 [p.1]
theorem SlAll.below {w w' : World} {lo hi : Nat} {ls : List (Value × List Sp)} (h : SlAll w lo hi ls) (hb : Below w.heap.size w w') (hhi : hi ≤ w.heap.size) : SlAll w' lo hi ls := fun p hp => sl_keep RSp.loc (h p hp) hb hhi
def allSp (ls : List (Value × List Sp)) : List Sp := (ls.map Prod.snd).flatten
theorem allSp_snoc (ls : List (Value × List Sp)) (p : Value × List Sp) : allSp (ls ++ [p]) = allSp ls ++ p.2 := by simp [allSp]
/-- The tree that has been built. -/
structure TreeIs (w : World) (base : Nat) (t : Tr) (l : List Sp) : Prop where
  tin : Tin w t
  nd : t.blocks.Nodup
  list : t.list = putsS l []
  at_ : ∀ b ∈ t.blocks, base ≤ b
theorem TreeIs.below {w w' : World} {base : Nat} {t : Tr} {l : List Sp} (h : TreeIs w base t l) (hb : Below w.heap.size w w') : TreeIs w' base t l := ⟨h.tin.below hb, h.nd, h.list, h.at_⟩
theorem TreeIs.asc {w : World} {base : Nat} {t : Tr} {l : List Sp} (h : TreeIs w base t l) : ascS t.list := by rw [h.list]; exact putsS_asc List.Pairwise.nil
theorem putsS_mem : ∀ {a l : List Sp} {x : Sp}, x ∈ putsS a l → x ∈ a ∨ x ∈ l
  | [], _, _, h => .inr h
  | s :: a, l, x, h => by
    have h' : x ∈ putsS a (putS s l) := h
    rcases putsS_mem h' with h | h
    · exact .inl (by simp [h])
    · rcases putS_mem h with rfl | h
      · exact .inl (by simp)
      · exact .inr h
theorem TreeIs.in64 {w : World} {base : Nat} {t : Tr} {l : List Sp} (h : TreeIs w base t l) (hl : ∀ x ∈ l, In64 x.n) : ∀ y ∈ t.list, In64 y.n := fun y hy => by
  rw [h.list] at hy
  rcases putsS_mem hy with h | h
  · exact hl y h
  · cases h
theorem TreeIs.size {w : World} {base : Nat} {t : Tr} {l : List Sp} (h : TreeIs w base t l) : t.size ≤ l.length := by
  rw [← Tr.list_len, h.list]
  have := putsS_len (a := l) (l := [])
  simpa using this
theorem sp_in64 {w : World} {lo hi : Nat} {xs : List Sp} {v : Value} (h : RSl RSp 2 w lo hi xs [v]) : ∀ x ∈ xs, In64 x.n ∧ In64 x.p := RSl.good (F := FSp) h
/-- What find finds. -/
theorem findS_tree : ∀ {l r : List Sp} {s : Sp} {n : Int}, ascS (l ++ s :: r) → findS n (l ++ s :: r) = if n = s.n then s.p else if n < s.n then findS n l else findS n r
  | [], r, s, n, h => by
    show (if s.n = n then s.p else findS n r) = _
    by_cases he : s.n = n
    · rw [if_pos he, if_pos he.symm]
    · rw [if_neg he, if_neg fun e => he e.symm]
      split
      · rename_i hlt
        show findS n r = 0
        have : ∀ x ∈ r, ¬ x.n = n := fun x hx => by have := (List.pairwise_cons.1 h).1 x hx; omega
        clear h
        induction r with
        | nil => rfl
        | cons x r ih => show (if x.n = n then x.p else findS n r) = 0; rw [if_neg (this x (by simp)), ih fun y hy => this y (by simp [hy])]
      · rfl
  | x :: l, r, s, n, h => by
    have hx := (List.pairwise_cons.1 h).1 s (by simp)
    show (if x.n = n then x.p else findS n (l ++ s :: r)) = _
    rw [findS_tree (List.pairwise_cons.1 h).2]
    by_cases he : x.n = n
    · rw [if_pos he, if_neg (by omega), if_pos (by omega)]
      show x.p = (if x.n = n then x.p else _)
      rw [if_pos he]
    · rw [if_neg he]
      split
      · rfl
      · split
        · show findS n l = (if x.n = n then x.p else findS n l)
          rw [if_neg he]
        · rfl
theorem tin_one {w : World} : ∀ {u u' : Tr}, Tin w u → Tin w u' → u.ptr = u'.ptr → u = u'
  | .nil, .nil, _, _, _ => rfl
  | .nil, .node .., _, _, h => by simp [Tr.ptr] at h
  | .node .., .nil, _, _, h => by simp [Tr.ptr] at h
  | .node b s l r, .node b' s' l' r', ⟨hk, hl, hr⟩, ⟨hk', hl', hr'⟩, h => by
    simp only [Tr.ptr, Value.pointer.injEq, Option.some.injEq, Addr.mk.injEq, and_true] at h
    obtain rfl := h
    unfold Blk at hk hk'
    rw [hk] at hk'
    simp only [Option.some.injEq, Obj.cells.injEq, Array.mk.injEq, List.cons.injEq, Value.int.injEq, true_and, and_true] at hk'
    obtain ⟨h1, h2, h3, h4⟩ := hk'
    rw [Sp.eq_of h1 h2, tin_one hl hl' h3, tin_one hr hr' h4]
instance trInh : Inhabited Tr := ⟨.nil⟩
theorem tin_size {w : World} {u : Tr} (h : Tin w u) : (Classical.epsilon fun u' : Tr => u.ptr = u'.ptr ∧ Tin w u').size = u.size := by
  have h1 := Classical.epsilon_spec (p := fun u' : Tr => u.ptr = u'.ptr ∧ Tin w u') ⟨u, rfl, h⟩
  rw [← tin_one h h1.2 h1.1]
end Go.Proofs.Ytpdkgpbfmpekgaa
