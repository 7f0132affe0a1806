


/- Packs, right or not, by the reference. -/
import Derived.Test.YtpdkgpbfmpekgaaStrS
import Derived.Test.YtpdkgpbfmpekgaaPk
namespace Go.Proofs.Ytpdkgpbfmpekgaa
open Go.RowKit

/-- An item is right: its body is a padded piece, of its name. -/
def itemP (key : Int) (x : It) : Prop := ∃ p, padBack (bs x.b) = some p ∧ nameL key p = x.n
theorem padBack_piece {l p : List Nat} (h : padBack l = some p) : pieceP p ∧ padL p = l := by
  unfold padBack at h
  split at h
  · rename_i h1
    have e := Option.some.inj h
    rw [e] at h1
    exact h1
  · cases h
/-- A right pack. -/
def packP (key : Int) (p : Pk) : Prop := (1 ≤ p.no ∧ p.no ≤ 99) ∧ (1 ≤ key ∧ key ≤ 99) ∧ (1 ≤ p.its.length ∧ p.its.length ≤ 4) ∧ (∀ x ∈ p.its, itemP key x) ∧ p.its.Pairwise fun a b => a.n < b.n
def itsA (key : Int) (l : List It) : Prop := (∀ x ∈ l, itemP key x) ∧ l.Pairwise fun a b => a.n < b.n
theorem itsA_snoc {key : Int} {xs : List It} {x : It} : itsA key (xs ++ [x]) ↔ itsA key xs ∧ itemP key x ∧ ∀ y ∈ xs, y.n < x.n := by
  unfold itsA
  rw [List.pairwise_append]
  constructor
  · intro ⟨h1, h2, _, h3⟩
    exact ⟨⟨fun y hy => h1 y (by simp [hy]), h2⟩, h1 x (by simp), fun y hy => h3 y hy x (by simp)⟩
  · intro ⟨⟨h1, h2⟩, h3, h4⟩
    refine ⟨fun y hy => ?_, h2, List.pairwise_singleton _ _, fun a ha b hb => ?_⟩
    · rcases List.mem_append.1 hy with hy | hy
      · exact h1 y hy
      · rw [List.mem_singleton.1 hy]; exact h3
    · rw [List.mem_singleton.1 hb]; exact h4 a ha
theorem its_yes0 {key : Int} {xs : List It} {x : It} (hx : xs[0]? = some x) (h : itemP key x) : itsA key (xs.take 1) := by
  rw [take_succ hx]
  exact itsA_snoc.2 ⟨⟨fun y hy => (by cases hy), List.Pairwise.nil⟩, h, fun y hy => (by cases hy)⟩
theorem its_yes {key : Int} {xs : List It} {x y : It} {j : Nat} (hn : itsA key (xs.take (j + 1))) (hy : xs[j]? = some y) (hx : xs[j + 1]? = some x) (h : itemP key x) (hlt : y.n < x.n) : itsA key (xs.take (j + 1 + 1)) := by
  rw [take_succ hx]
  refine itsA_snoc.2 ⟨hn, h, fun z hz => ?_⟩
  rw [take_succ hy] at hz hn
  rcases List.mem_append.1 hz with hz | hz
  · have := (itsA_snoc.1 hn).2.2 z hz; omega
  · rw [List.mem_singleton.1 hz]; exact hlt
theorem its_no {key : Int} {xs : List It} {x : It} {k : Nat} (hx : xs[k]? = some x) (h : ¬ itemP key x) : ¬ itsA key xs := fun hp => h (hp.1 x (List.mem_of_getElem? hx))
theorem its_no2 {key : Int} {xs : List It} {x y : It} {j : Nat} (hy : xs[j]? = some y) (hx : xs[j + 1]? = some x) (h : ¬ y.n < x.n) : ¬ itsA key xs := fun hp => by
  have h1 := List.pairwise_iff_getElem.1 hp.2 j (j + 1) (lt_of_some hy) (lt_of_some hx) (by omega)
  rw [(List.getElem?_eq_some_iff.1 hy).2, (List.getElem?_eq_some_iff.1 hx).2] at h1
  exact h h1
theorem itsA_nil (key : Int) : itsA key [] := ⟨fun x h => (by cases h), List.Pairwise.nil⟩
theorem bool_is (p : Prop) : ∃ b : Bool, b = true ↔ p := by
  by_cases h : p
  · exact ⟨true, by simp [h]⟩
  · exact ⟨false, by simp [h]⟩
end Go.Proofs.Ytpdkgpbfmpekgaa
