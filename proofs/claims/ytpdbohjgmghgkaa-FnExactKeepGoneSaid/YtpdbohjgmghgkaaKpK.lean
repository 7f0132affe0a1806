


/- What all the parts of a rule keep, as one list: plain. -/
import Derived.Test.YtpdbohjgmghgkaaKpI
namespace Go.Proofs.Ytpdbohjgmghgkaa

def KAllR (l : List St) (a b c : Int) (r : List Int) : Prop := (stP l ∧ r = sn l (kA l a b c)) ∨ (¬ stP l ∧ r = [])
theorem KAllR_total (l : List St) (a b c : Int) : ∃ r, KAllR l a b c r := by
  by_cases h : stP l
  · exact ⟨_, .inl ⟨h, rfl⟩⟩
  · exact ⟨_, .inr ⟨h, rfl⟩⟩
theorem sn_asc {l : List St} (h : stA l) {is : List Nat} (hl : ∀ i ∈ is, i < l.length) (ha : is.Pairwise (· < ·)) : (sn l is).Pairwise (· < ·) :=
  List.pairwise_map.2 (ha.imp_of_mem fun {_ j} _ hj hij => snap_lt h hij (hl j hj))
theorem kA_asc (l : List St) (a b c : Int) : (kA l a b c).Pairwise (· < ·) := List.Pairwise.sublist List.filter_sublist List.pairwise_lt_range
theorem KAllR.asc {l : List St} {a b c : Int} {r : List Int} (h : KAllR l a b c r) : r.Pairwise (· < ·) := by
  rcases h with ⟨h, rfl⟩ | ⟨_, rfl⟩
  · exact sn_asc h.1 (fun i hi => kA_lt hi) (kA_asc l a b c)
  · exact List.Pairwise.nil
theorem kA_mem {l : List St} {a b c : Int} {i : Nat} : i ∈ kA l a b c ↔ i ∈ kD l 0 a ∨ i ∈ kD l 1 b ∨ i ∈ kD l 7 c := by
  unfold kA inAll
  rw [List.mem_filter, List.mem_range]
  simp only [Bool.or_eq_true, decide_eq_true_eq, or_assoc]
  exact ⟨fun h => h.2, fun h => ⟨by rcases h with h | h | h <;> exact kD_lt h, h⟩⟩
theorem KAllR.mem {l : List St} {a b c : Int} {r r1 r2 r3 : List Int} (h : KAllR l a b c r) (h1 : KPart l 0 a r1) (h2 : KPart l 1 b r2) (h3 : KPart l 7 c r3) (x : Int) : x ∈ r ↔ x ∈ [] ++ r1 ++ r2 ++ r3 := by
  rcases h with ⟨h, rfl⟩ | ⟨h, rfl⟩
  · rcases h1 with ⟨_, rfl⟩ | ⟨h', _⟩
    · rcases h2 with ⟨_, rfl⟩ | ⟨h', _⟩
      · rcases h3 with ⟨_, rfl⟩ | ⟨h', _⟩
        · simp only [List.nil_append, List.mem_append, sn, List.mem_map, kA_mem]
          constructor
          · rintro ⟨i, h | h | h, e⟩
            · exact .inl (.inl ⟨i, h, e⟩)
            · exact .inl (.inr ⟨i, h, e⟩)
            · exact .inr ⟨i, h, e⟩
          · rintro ((⟨i, h, e⟩ | ⟨i, h, e⟩) | ⟨i, h, e⟩)
            · exact ⟨i, .inl h, e⟩
            · exact ⟨i, .inr (.inl h), e⟩
            · exact ⟨i, .inr (.inr h), e⟩
        · exact absurd h h'
      · exact absurd h h'
    · exact absurd h h'
  · rcases h1 with ⟨h', _⟩ | ⟨_, rfl⟩
    · exact absurd h' h
    · rcases h2 with ⟨h', _⟩ | ⟨_, rfl⟩
      · exact absurd h' h
      · rcases h3 with ⟨h', _⟩ | ⟨_, rfl⟩
        · exact absurd h' h
        · simp
end Go.Proofs.Ytpdbohjgmghgkaa
