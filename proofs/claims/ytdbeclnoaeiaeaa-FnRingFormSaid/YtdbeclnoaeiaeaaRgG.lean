


/- What RingTurn, RingShut, RingLet give is good and small where the ring was, and has a key. -/
import Derived.Test.YtdbeclnoaeiaeaaOpRing
import Derived.Test.YtdbeclnoaeiaeaaERing
import Derived.Test.YtdbeclnoaeiaeaaRgLt
namespace Go.Proofs.Ytdbeclnoaeiaeaa
open Go.RowKit

theorem turn_good {r r' : Rg} {key : Int} {ok : Bool} (h : RTurn r key r' ok) (hg : RgGood r) (hk : In64 key) : RgGood r' := by
  rcases h with ⟨_, _, _, rfl⟩ | ⟨_, _, _, rfl⟩ | ⟨_, _, rfl⟩
  · refine ⟨fun x hx => ?_, hg.grs⟩
    rcases List.mem_append.1 hx with hx | hx
    · exact hg.keys x hx
    · rw [List.mem_singleton.1 hx]; exact hk
  · exact hg
  · exact ⟨fun x hx => (by cases hx), fun x hx => (by cases hx)⟩
theorem turn_sz {r r' : Rg} {key : Int} {ok : Bool} (h : RTurn r key r' ok) (hs : szP r) : szP r' := by
  rcases h with ⟨_, h1, _, rfl⟩ | ⟨_, _, _, rfl⟩ | ⟨_, _, rfl⟩
  · have := h1.1.2.2.2
    exact ⟨by simp; omega, hs.2⟩
  · exact hs
  · exact ⟨by simp, by simp⟩

theorem shut_good {r r' : Rg} {m key : Int} {ok : Bool} (h : RShut r m key r' ok) (hg : RgGood r) (hk : In64 key) : RgGood r' := by
  rcases h with ⟨_, h1, _, k, x, hx, _, _, rfl⟩ | ⟨_, _, _, rfl⟩ | ⟨_, _, rfl⟩
  · refine ⟨fun x hx => ?_, fun y hy => ?_⟩
    · rcases List.mem_append.1 hx with hx | hx
      · exact hg.keys x hx
      · rw [List.mem_singleton.1 hx]; exact hk
    · rcases List.mem_or_eq_of_mem_set hy with hy | rfl
      · exact hg.grs y hy
      · have h0 := hg.grs x (List.mem_of_getElem? hx)
        have := h1.1.2.2.2
        refine ⟨h0.1, h0.2.1, ?_⟩
        show In64 (r.keys.length : Int)
        unfold In64
        omega
  · exact hg
  · exact ⟨fun x hx => (by cases hx), fun x hx => (by cases hx)⟩
theorem shut_sz {r r' : Rg} {m key : Int} {ok : Bool} (h : RShut r m key r' ok) (hs : szP r) : szP r' := by
  rcases h with ⟨_, h1, _, k, x, hx, _, _, rfl⟩ | ⟨_, _, _, rfl⟩ | ⟨_, _, rfl⟩
  · have := h1.1.2.2.2
    exact ⟨by simp; omega, by have := hs.2; simpa using this⟩
  · exact hs
  · exact ⟨by simp, by simp⟩

theorem insG_mem {g : Gr} : ∀ {xs : List Gr} {y : Gr}, y ∈ insG g xs → y = g ∨ y ∈ xs
  | [], y, h => by
    have : y ∈ [g] := h
    simp at this; exact .inl this
  | x :: xs, y, h => by
    have h' : y ∈ (if g.m < x.m then g :: x :: xs else x :: insG g xs) := h
    split at h'
    · rcases List.mem_cons.1 h' with e | e
      · exact .inl e
      · exact .inr e
    · rcases List.mem_cons.1 h' with e | e
      · exact .inr (by rw [e]; simp)
      · rcases insG_mem e with e | e
        · exact .inl e
        · exact .inr (by simp [e])
theorem asc_len : ∀ (xs : List Gr) (lo : Int), (∀ x ∈ xs, lo ≤ x.m ∧ x.m ≤ 4) → (xs.Pairwise fun a b => a.m < b.m) → (xs.length : Int) ≤ 5 - lo ∨ xs = []
  | [], _, _, _ => .inr rfl
  | x :: xs, lo, h, hp => by
    have h1 := h x (by simp)
    rw [List.pairwise_cons] at hp
    rcases asc_len xs (x.m + 1) (fun y hy => ⟨by have := hp.1 y hy; omega, (h y (by simp [hy])).2⟩) hp.2 with h2 | rfl
    · left; rw [List.length_cons]; omega
    · left; simp; omega
theorem let_good {r r' : Rg} {m : Int} {all ok : Bool} (h : RLet r m all r' ok) (hg : RgGood r) (hk : In64 m) : RgGood r' := by
  rcases h with ⟨_, h1, _, rfl⟩ | ⟨_, _, _, rfl⟩ | ⟨_, _, rfl⟩
  · refine ⟨hg.keys, fun y hy => ?_⟩
    rcases insG_mem hy with rfl | hy
    · have := h1.1.2.2.2
      refine ⟨hk, ?_, by show In64 0; unfold In64; omega⟩
      show In64 (letFrom all r)
      unfold letFrom In64
      split <;> omega
    · exact hg.grs y hy
  · exact hg
  · exact ⟨fun x hx => (by cases hx), fun x hx => (by cases hx)⟩
theorem let_sz {r r' : Rg} {m : Int} {all ok : Bool} (h : RLet r m all r' ok) (hs : szP r) : szP r' := by
  rcases h with ⟨_, h1, _, rfl⟩ | ⟨_, _, _, rfl⟩ | ⟨_, _, rfl⟩
  · refine ⟨hs.1, ?_⟩
    show (insG _ r.grs).length ≤ 1048576
    rw [insG_len]
    have hm : ∀ x ∈ r.grs, 1 ≤ x.m ∧ x.m ≤ 4 := fun x hx => by
      have := h1.1.2.1.1 x hx
      exact ⟨this.1, this.2.1⟩
    rcases asc_len r.grs 1 hm h1.1.2.1.2 with h2 | h2
    · omega
    · rw [h2]; simp
  · exact hs
  · exact ⟨by simp, by simp⟩

theorem turn_pos {r r' : Rg} {key : Int} {ok : Bool} (h : RTurn r key r' ok) (hok : ok = true) : 1 ≤ r'.keys.length := by
  rcases h with ⟨_, _, _, rfl⟩ | ⟨h, _⟩ | ⟨h, _⟩
  · simp
  · rw [h] at hok; cases hok
  · rw [h] at hok; cases hok
theorem shut_pos {r r' : Rg} {m key : Int} {ok : Bool} (h : RShut r m key r' ok) (hok : ok = true) : 1 ≤ r'.keys.length := by
  rcases h with ⟨_, _, _, k, x, _, _, _, rfl⟩ | ⟨h, _⟩ | ⟨h, _⟩
  · simp
  · rw [h] at hok; cases hok
  · rw [h] at hok; cases hok
theorem let_pos {r r' : Rg} {m : Int} {all ok : Bool} (h : RLet r m all r' ok) (hok : ok = true) : 1 ≤ r'.keys.length := by
  rcases h with ⟨_, h1, _, rfl⟩ | ⟨h, _⟩ | ⟨h, _⟩
  · exact h1.1.2.2.1
  · rw [h] at hok; cases hok
  · rw [h] at hok; cases hok
end Go.Proofs.Ytdbeclnoaeiaeaa
