


/- Indexes merged: the reference, and the program by its search tree. -/
import Derived.Test.YtpdkgpbfmpekgaaIxP
namespace Go.Proofs.Ytpdkgpbfmpekgaa
open Go.RowKit

theorem bool_of (p : Prop) : ∃ q : Bool, q = true ↔ p := by
  by_cases h : p
  · exact ⟨true, by simp [h]⟩
  · exact ⟨false, by simp [h]⟩
theorem sp_good {l : List Sp} (h : ixP l) : ∀ x ∈ l, FSp.good x := fun x hx => by
  have := h.1 x hx
  unfold spP at this
  refine ⟨?_, ?_⟩ <;> unfold In64 <;> omega
/-- What IndexMerge gives. -/
def IMerge (a b r : List Sp) : Prop := ((ixP a ∧ ixP b) ∧ r = putsS a b) ∨ (¬ (ixP a ∧ ixP b) ∧ r = [])
theorem IMerge_total (a b : List Sp) : ∃ r, IMerge a b r := by
  by_cases h : ixP a ∧ ixP b
  · exact ⟨_, .inl ⟨h, rfl⟩⟩
  · exact ⟨_, .inr ⟨h, rfl⟩⟩
theorem IMerge.ix {a b r : List Sp} (h : IMerge a b r) : ixP r := by
  rcases h with ⟨h, rfl⟩ | ⟨_, rfl⟩
  · exact putsS_ix h.2 h.1.1
  · exact ix_nil
theorem putsS_snoc {a l : List Sp} {x : Sp} : putsS (a ++ [x]) l = putS x (putsS a l) := by rw [putsS_append]; rfl
end Go.Proofs.Ytpdkgpbfmpekgaa
