


/- Laws on indexes and search trees, with no program in sight. -/
import Derived.Test.YtpdkgpbfmpekgaaGreatDoorBase
namespace Go.Proofs.YtpdkgpbfmpekgaaGreatDoor

structure Sp where
  n : Int
  p : Int
theorem Sp.eq_of {a b : Sp} (h1 : a.n = b.n) (h2 : a.p = b.p) : a = b := by cases a; cases b; simp only at h1 h2; rw [h1, h2]
/-- An index: names ascending. -/
def ascS (l : List Sp) : Prop := l.Pairwise fun a b => a.n < b.n
def spP (s : Sp) : Prop := (0 ≤ s.n ∧ s.n ≤ 999999999988) ∧ (1 ≤ s.p ∧ s.p ≤ 99)
def ixP (l : List Sp) : Prop := (∀ s ∈ l, spP s) ∧ ascS l
/-- A spot put into an index. -/
def putS (s : Sp) : List Sp → List Sp
  | [] => [s]
  | x :: xs => if s.n < x.n then s :: x :: xs else if x.n < s.n then x :: putS s xs else s :: xs
theorem putS_mem {s x : Sp} : ∀ {l : List Sp}, x ∈ putS s l → x = s ∨ x ∈ l
  | [], h => by have : x ∈ [s] := h; simp at this; exact .inl this
  | y :: l, h => by
    have h' : x ∈ (if s.n < y.n then s :: y :: l else if y.n < s.n then y :: putS s l else s :: l) := h
    split at h'
    · rcases List.mem_cons.1 h' with e | e
      · exact .inl e
      · exact .inr e
    · split at h'
      · rcases List.mem_cons.1 h' with e | e
        · exact .inr (by rw [e]; simp)
        · rcases putS_mem e with e | e
          · exact .inl e
          · exact .inr (by simp [e])
      · rcases List.mem_cons.1 h' with e | e
        · exact .inl e
        · exact .inr (by simp [e])
theorem putS_in {s : Sp} : ∀ {l : List Sp}, s ∈ putS s l
  | [] => by show s ∈ [s]; simp
  | y :: l => by
    show s ∈ (if s.n < y.n then s :: y :: l else if y.n < s.n then y :: putS s l else s :: l)
    split
    · simp
    · split
      · exact List.mem_cons_of_mem _ putS_in
      · simp
theorem putS_asc {s : Sp} : ∀ {l : List Sp}, ascS l → ascS (putS s l)
  | [], _ => List.pairwise_singleton _ _
  | y :: l, h => by
    have h' := List.pairwise_cons.1 h
    show ascS (if s.n < y.n then s :: y :: l else if y.n < s.n then y :: putS s l else s :: l)
    split
    · rename_i hlt
      refine List.pairwise_cons.2 ⟨fun z hz => ?_, h⟩
      rcases List.mem_cons.1 hz with rfl | hz
      · exact hlt
      · have := h'.1 z hz; omega
    · split
      · rename_i hlt
        refine List.pairwise_cons.2 ⟨fun z hz => ?_, putS_asc h'.2⟩
        rcases putS_mem hz with rfl | hz
        · exact hlt
        · exact h'.1 z hz
      · refine List.pairwise_cons.2 ⟨fun z hz => ?_, h'.2⟩
        have := h'.1 z hz; omega
theorem putS_ix {s : Sp} {l : List Sp} (h : ixP l) (hs : spP s) : ixP (putS s l) := ⟨fun x hx => by
  rcases putS_mem hx with rfl | hx
  · exact hs
  · exact h.1 x hx, putS_asc h.2⟩
theorem putS_len {s : Sp} : ∀ {l : List Sp}, (putS s l).length ≤ l.length + 1
  | [] => by show [s].length ≤ _; simp
  | y :: l => by
    show (if s.n < y.n then s :: y :: l else if y.n < s.n then y :: putS s l else s :: l).length ≤ _
    split
    · simp
    · split
      · have := putS_len (s := s) (l := l); simp; omega
      · simp
/-- Behind what is lesser, ahead of what is greater. -/
theorem putS_mid {s : Sp} : ∀ {a b : List Sp}, (∀ x ∈ a, x.n < s.n) → putS s (a ++ b) = a ++ putS s b
  | [], _, _ => rfl
  | x :: a, b, h => by
    have hx := h x (by simp)
    show (if s.n < x.n then s :: x :: (a ++ b) else if x.n < s.n then x :: putS s (a ++ b) else s :: (a ++ b)) = x :: (a ++ putS s b)
    rw [if_neg (by omega), if_pos hx, putS_mid fun y hy => h y (by simp [hy])]
theorem putS_left {s x : Sp} (hx : s.n < x.n) : ∀ {a b : List Sp}, putS s (a ++ x :: b) = putS s a ++ x :: b
  | [], b => by
    show (if s.n < x.n then s :: x :: b else _) = [s] ++ x :: b
    rw [if_pos hx]; rfl
  | y :: a, b => by
    show (if s.n < y.n then s :: y :: (a ++ x :: b) else if y.n < s.n then y :: putS s (a ++ x :: b) else s :: (a ++ x :: b)) = (if s.n < y.n then s :: y :: a else if y.n < s.n then y :: putS s a else s :: a) ++ x :: b
    split
    · rfl
    · split
      · rw [putS_left hx]; rfl
      · rfl

/-- Search trees, each node in a block. -/
inductive Tr where
  | nil
  | node (b : Nat) (s : Sp) (l r : Tr)
namespace Tr
def blocks : Tr → List Nat
  | nil => []
  | node b _ l r => b :: (l.blocks ++ r.blocks)
def list : Tr → List Sp
  | nil => []
  | node _ s l r => l.list ++ s :: r.list
def size : Tr → Nat
  | nil => 0
  | node _ _ l r => l.size + r.size + 1
def put (nb : Nat) (s : Sp) : Tr → Tr
  | nil => node nb s nil nil
  | node b x l r => if s.n < x.n then node b x (l.put nb s) r else if x.n < s.n then node b x l (r.put nb s) else node b s l r
theorem list_len : ∀ t : Tr, t.list.length = t.size
  | nil => rfl
  | node _ _ l r => by simp only [list, size, List.length_append, List.length_cons, list_len l, list_len r]; omega
theorem put_blocks {nb : Nat} {s : Sp} : ∀ {t : Tr} {b : Nat}, b ∈ (t.put nb s).blocks → b = nb ∨ b ∈ t.blocks
  | nil, b, h => by simp [put, blocks] at h; exact .inl h
  | node c x l r, b, h => by
    unfold put at h
    split at h
    · simp only [blocks, List.mem_cons, List.mem_append] at h ⊢
      rcases h with h | h | h
      · exact .inr (.inl h)
      · rcases put_blocks h with h | h
        · exact .inl h
        · exact .inr (.inr (.inl h))
      · exact .inr (.inr (.inr h))
    · split at h
      · simp only [blocks, List.mem_cons, List.mem_append] at h ⊢
        rcases h with h | h | h
        · exact .inr (.inl h)
        · exact .inr (.inr (.inl h))
        · rcases put_blocks h with h | h
          · exact .inl h
          · exact .inr (.inr (.inr h))
      · simp only [blocks, List.mem_cons, List.mem_append] at h ⊢
        exact .inr h
theorem put_list {nb : Nat} {s : Sp} : ∀ {t : Tr}, ascS t.list → (t.put nb s).list = putS s t.list
  | nil, _ => rfl
  | node c x l r, h => by
    have hp := List.pairwise_append.1 h
    have hr := List.pairwise_cons.1 hp.2.1
    unfold put
    split
    · rename_i hlt
      show (l.put nb s).list ++ x :: r.list = putS s (l.list ++ x :: r.list)
      rw [put_list hp.1, putS_left hlt]
    · split
      · rename_i hlt
        show l.list ++ x :: (r.put nb s).list = putS s (l.list ++ x :: r.list)
        rw [put_list hr.2, putS_mid fun y hy => by have := hp.2.2 y hy x (by simp); omega]
        show _ = l.list ++ (if s.n < x.n then s :: x :: r.list else if x.n < s.n then x :: putS s r.list else s :: r.list)
        rw [if_neg (by omega), if_pos hlt]
      · show l.list ++ s :: r.list = putS s (l.list ++ x :: r.list)
        rw [putS_mid fun y hy => by have := hp.2.2 y hy x (by simp); omega]
        show _ = l.list ++ (if s.n < x.n then s :: x :: r.list else if x.n < s.n then x :: putS s r.list else s :: r.list)
        rw [if_neg (by omega), if_neg (by omega)]
theorem put_size {nb : Nat} {s : Sp} : ∀ {t : Tr}, (t.put nb s).size ≤ t.size + 1
  | nil => by simp [put, size]
  | node c x l r => by
    unfold put
    split
    · have := put_size (nb := nb) (s := s) (t := l); simp only [size]; omega
    · split
      · have := put_size (nb := nb) (s := s) (t := r); simp only [size]; omega
      · simp only [size]; omega
end Tr
/-- Spots put one behind the other. -/
def putsS : List Sp → List Sp → List Sp
  | [], l => l
  | s :: ss, l => putsS ss (putS s l)
theorem putsS_append : ∀ (a b l : List Sp), putsS (a ++ b) l = putsS b (putsS a l)
  | [], _, _ => rfl
  | s :: a, b, l => putsS_append a b (putS s l)
theorem putsS_asc : ∀ {a l : List Sp}, ascS l → ascS (putsS a l)
  | [], _, h => h
  | s :: a, l, h => by show ascS (putsS a (putS s l)); exact putsS_asc (putS_asc h)
theorem putsS_ix : ∀ {a l : List Sp}, ixP l → (∀ s ∈ a, spP s) → ixP (putsS a l)
  | [], _, h, _ => h
  | s :: a, l, h, hs => by show ixP (putsS a (putS s l)); exact putsS_ix (putS_ix h (hs s (by simp))) fun x hx => hs x (by simp [hx])
theorem putsS_len : ∀ {a l : List Sp}, (putsS a l).length ≤ a.length + l.length
  | [], _ => by show _ ≤ _; simp [putsS]
  | s :: a, l => by
    have h1 := putsS_len (a := a) (l := putS s l)
    have h2 := putS_len (s := s) (l := l)
    show (putsS a (putS s l)).length ≤ _
    simp only [List.length_cons]; omega
/-- An index put into nothing is itself. -/
theorem putS_last {s : Sp} {l : List Sp} (h : ∀ x ∈ l, x.n < s.n) : putS s l = l ++ [s] := by
  have := putS_mid (s := s) (a := l) (b := []) h
  rw [List.append_nil] at this
  rw [this]; rfl
theorem putsS_self : ∀ {a l : List Sp}, ascS (l ++ a) → putsS a l = l ++ a
  | [], l, _ => by show l = _; simp
  | s :: a, l, h => by
    have h' := List.pairwise_append.1 h
    show putsS a (putS s l) = _
    rw [putS_last fun x hx => h'.2.2 x hx s (by simp), putsS_self (by rw [List.append_assoc]; exact h)]
    simp
/-- The pack of a name; 0, if there is none. -/
def findS (n : Int) : List Sp → Int
  | [] => 0
  | x :: xs => if x.n = n then x.p else findS n xs
theorem findS_put {s : Sp} {n : Int} : ∀ {l : List Sp}, findS n (putS s l) = if s.n = n then s.p else findS n l
  | [] => by show (if s.n = n then s.p else 0) = _; rfl
  | x :: l => by
    show findS n (if s.n < x.n then s :: x :: l else if x.n < s.n then x :: putS s l else s :: l) = _
    split
    · rfl
    · split
      · show (if x.n = n then x.p else findS n (putS s l)) = (if s.n = n then s.p else (if x.n = n then x.p else findS n l))
        rw [findS_put]
        split
        · rw [if_neg (by omega)]
        · rfl
      · show (if s.n = n then s.p else findS n l) = (if s.n = n then s.p else (if x.n = n then x.p else findS n l))
        split
        · rfl
        · rw [if_neg (by omega)]
end Go.Proofs.YtpdkgpbfmpekgaaGreatDoor
