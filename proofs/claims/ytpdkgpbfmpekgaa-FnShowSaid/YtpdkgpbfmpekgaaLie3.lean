


/- What a lie leaves to be seen: plain. -/
import Derived.Test.YtpdkgpbfmpekgaaGD
import Derived.Test.YtpdkgpbfmpekgaaLog
namespace Go.Proofs.Ytpdkgpbfmpekgaa
open Go.RowKit

theorem WfS.okl {s : Sto} (h : WfS s) : okLog s.lg := ⟨h.ll, h.lg⟩
theorem okLog.take {l : List Hd} (h : okLog l) (n : Nat) : okLog (l.take n) := ⟨by have := h.1; rw [List.length_take]; omega, fun x hx => h.2 x (List.mem_of_mem_take hx)⟩
theorem wrap64_small {z : Int} (h0 : 0 ≤ z) (h3 : z < 3) : wrap64 z = z := by unfold wrap64; omega
theorem forkH_b {x : Hd} (h : okHd x) : (forkH x).b = 3 - x.b ∧ (forkH x).s = x.s := by
  have := h.1
  exact ⟨wrap64_small (by omega) (by omega), rfl⟩
theorem okLog.fork {l : List Hd} (h : okLog l) (n : Nat) : okLog (setAt l n forkH) := ⟨by rw [setAt_len]; exact h.1, fun x hx => by
  rcases setAt_mem hx with hx | ⟨y, hy, rfl⟩
  · exact h.2 x hx
  · have h1 := h.2 y (List.mem_of_getElem? hy)
    obtain ⟨e1, e2⟩ := forkH_b h1
    have := h1.1
    have := h1.2
    unfold okHd
    omega⟩
theorem forkAt_take : ∀ (l : List Hd) (n i : Nat), forkAt i (l.take n) l = -1
  | [], n, i => by rw [List.take_nil]; rfl
  | _ :: _, 0, _ => rfl
  | x :: l, n + 1, i => by
    rw [List.take_succ_cons]
    exact (if_pos ⟨rfl, rfl⟩).trans (forkAt_take l n (i + 1))
theorem forkAt_self (l : List Hd) (i : Nat) : forkAt i l l = -1 := by have := forkAt_take l l.length i; rwa [List.take_length] at this
theorem setAt_zero {α : Type} (x : α) (l : List α) (f : α → α) : setAt (x :: l) 0 f = f x :: l := rfl
theorem setAt_succ {α : Type} (x : α) (l : List α) (n : Nat) (f : α → α) : setAt (x :: l) (n + 1) f = x :: setAt l n f := by
  unfold setAt
  simp only [List.getElem?_cons_succ]
  cases l[n]? <;> rfl
theorem forkAt_fork : ∀ (l : List Hd) (n i : Nat), (∀ x ∈ l, okHd x) → n < l.length → forkAt i (setAt l n forkH) l = ((i + n : Nat) : Int)
  | [], n, i, _, h => absurd h (by simp)
  | x :: l, 0, i, h, _ => by
    rw [setAt_zero]
    have h1 := h x (by simp)
    obtain ⟨e1, e2⟩ := forkH_b h1
    have := h1.1
    exact if_neg (by omega)
  | x :: l, n + 1, i, h, hn => by
    rw [setAt_succ]
    refine (if_pos ⟨rfl, rfl⟩).trans ?_
    rw [forkAt_fork l n (i + 1) (fun y hy => h y (by simp [hy])) (by simp at hn; omega)]
    omega
/-- What FnShow asks of a lie. -/
theorem show1 {s : Sto} {l : LieV} (h : l.k = 1) : (∀ p ∈ (lieS s l).pk, ¬ p.no = l.n) ∧ (lieS s l).sn = s.sn ∧ (lieS s l).lg = s.lg := by
  rw [lieS_1 h]
  exact ⟨fun p hp => by have := (List.mem_filter.1 hp).2; simpa using this, rfl, rfl⟩
theorem show2 {s : Sto} {l : LieV} {nc : Nat} (hw : WfS s) (hl : LieP l nc) (hn : nc = s.lg.length) (h : l.k = 2) :
    okLog (lieS s l).lg ∧ (lieS s l).lg.length ≤ s.lg.length ∧ forkAt 0 (lieS s l).lg s.lg = -1 ∧ (lieS s l).pk = s.pk ∧ ((lieS s l).lg.length : Int) = l.n := by
  have h1 := hl.nl (.inl h)
  have h2 := hl.n
  rw [lieS_2 h (by omega)]
  refine ⟨hw.okl.take _, ?_, forkAt_take _ _ _, rfl, ?_⟩
  · show (s.lg.take _).length ≤ _; rw [List.length_take]; omega
  · show ((s.lg.take _).length : Int) = _; rw [List.length_take]; omega
theorem show3 {s : Sto} {l : LieV} (h : l.k = 3) : (⟨s.pk, (lieS s l).sn, (lieS s l).lg⟩ : Sto) = s ∧ (lieS s l).pk.length = s.pk.length := by
  rw [lieS_3 h]
  exact ⟨rfl, List.length_map _⟩
theorem show4 {s : Sto} {l : LieV} {nc : Nat} (hw : WfS s) (hl : LieP l nc) (h : l.k = 4) :
    okLog (lieS s l).lg ∧ (lieS s l).lg.length = s.lg.length ∧ (lieS s l).pk = s.pk ∧ (forkAt 0 (lieS s l).lg s.lg = l.n ∨ (¬ forkAt 0 (lieS s l).lg s.lg = l.n ∧ (s.lg.length : Int) ≤ l.n)) := by
  have h2 := hl.n
  by_cases c : 0 ≤ l.n ∧ l.n < s.lg.length
  · rw [lieS_4 h c]
    refine ⟨hw.okl.fork _, setAt_len _ _ _, rfl, .inl ?_⟩
    show forkAt 0 (setAt s.lg l.n.toNat forkH) s.lg = _
    rw [forkAt_fork s.lg l.n.toNat 0 hw.okl.2 (by omega)]
    omega
  · rw [lieS_4n h c]
    exact ⟨hw.okl, rfl, rfl, .inr ⟨by rw [forkAt_self]; omega, by omega⟩⟩
theorem show5 {s : Sto} {l : LieV} (h1 : ¬ l.k = 1) (h2 : ¬ l.k = 2) (h3 : ¬ l.k = 3) (h4 : ¬ l.k = 4) : lieS s l = s := lieS_5 h1 h2 h3 h4
end Go.Proofs.Ytpdkgpbfmpekgaa
