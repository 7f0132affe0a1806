


/- Packs: how they read. -/
import Derived.Test.YtpdkgpbfmpekgaaGreatDoorTr
import Derived.Test.YtpdkgpbfmpekgaaGreatDoorIxP
namespace Go.Proofs.YtpdkgpbfmpekgaaGreatDoor
open Go.RowKit

structure It where
  n : Int
  b : ByteArray
structure Pk where
  no : Int
  its : List It
def FIt : Flat It := ⟨2, fun x => [.int .i64 x.n, .string x.b], fun x => In64 x.n ∧ x.b.size ≤ maxLen, fun _ => rfl, fun x u hu => by simp at hu; rcases hu with rfl | rfl <;> rfl, by decide⟩
abbrev RIts : Rep (List It) := RSlT 110 (RFlat FIt) 2
def RPk : Rep Pk := fun w lo hi x cs => ∃ v, cs = [.int .i64 x.no, v] ∧ In64 x.no ∧ RIts w lo hi x.its [v]
abbrev RPks : Rep (List Pk) := RSlT 40 RPk 2
theorem RIts.tloc : TLoc RIts [110] := RSlT.tloc (RFlat.tloc FIt)
theorem RPk.tloc : TLoc RPk [110] := ⟨fun h h1 h2 ⟨v, e, i, hr⟩ => ⟨v, e, i, RIts.tloc.go h h1 h2 hr⟩⟩
theorem RPks.tloc : TLoc RPks [40, 110] := RSlT.tloc RPk.tloc
theorem elem_it : Elem Tryz.prog 38 110 2 24 := Elem.mk' Tryz.underlying38 (z := .agg #[.int .i64 0, .string ⟨#[]⟩]) (by kernel_rfl) rfl (by decide) (by decide)
theorem elem_pk : Elem Tryz.prog 23 40 2 32 := Elem.mk' Tryz.underlying23 (z := .agg #[.int .i64 0, .slice none 0 0]) (by kernel_rfl) rfl (by decide) (by decide)
theorem pk_at {w : World} {lo hi : Nat} {xs : List Pk} {A : Option Addr} {n c : Nat} (h : RPks w lo hi xs [.slice A n c]) {k : Nat} {x : Pk} (hk : xs[k]? = some x) :
    ∃ b off A' c', A = some ⟨b, off, none⟩ ∧ lo ≤ b ∧ b < hi ∧ In64 x.no ∧ w.cell? ⟨b, off + k * 2, none⟩ = some (.int .i64 x.no) ∧ w.cell? ⟨b, off + k * 2 + 1, none⟩ = some (.slice A' x.its.length c') ∧ RIts w lo hi x.its [.slice A' x.its.length c'] := by
  obtain ⟨b, off, es, rfl, h1, h2, hl, ⟨v, rfl, i64, hi⟩, hc⟩ := h.1.at_ hk
  obtain ⟨A', c', rfl⟩ := hi.form
  exact ⟨b, off, A', c', rfl, h1, h2, i64, by simpa using hc 0 _ rfl, hc 1 _ rfl, hi⟩
theorem it_at {w : World} {lo hi : Nat} {xs : List It} {A : Option Addr} {n c : Nat} (h : RIts w lo hi xs [.slice A n c]) {k : Nat} {x : It} (hk : xs[k]? = some x) :
    ∃ b off, A = some ⟨b, off, none⟩ ∧ lo ≤ b ∧ b < hi ∧ (In64 x.n ∧ x.b.size ≤ maxLen) ∧ w.cell? ⟨b, off + k * 2, none⟩ = some (.int .i64 x.n) ∧ w.cell? ⟨b, off + k * 2 + 1, none⟩ = some (.string x.b) := by
  obtain ⟨b, off, es, rfl, h1, h2, hl, ⟨rfl, h64⟩, hc⟩ := h.1.at_ hk
  exact ⟨b, off, rfl, h1, h2, h64, by simpa using hc 0 _ rfl, hc 1 _ rfl⟩
theorem RSlT.len_ {α : Type} {E : Rep α} {e : TypeId} {sz : Nat} {w : World} {lo hi : Nat} {xs : List α} {A : Option Addr} {n c : Nat} (h : RSlT e E sz w lo hi xs [.slice A n c]) : n = xs.length ∧ n ≤ c ∧ c ≤ maxLen := h.1.len_

/-- The spots of packs. -/
def spotsP (p : Pk) : List Sp := p.its.map fun x => ⟨x.n, p.no⟩
def spots (l : List Pk) : List Sp := l.flatMap spotsP
/-- What IndexOf gives. -/
def IOf (l : List Pk) (r : List Sp) : Prop := ((∀ s ∈ spots l, spP s) ∧ r = putsS (spots l) []) ∨ ((¬ ∀ s ∈ spots l, spP s) ∧ r = [])
theorem IOf_total (l : List Pk) : ∃ r, IOf l r := by
  by_cases h : ∀ s ∈ spots l, spP s
  · exact ⟨_, .inl ⟨h, rfl⟩⟩
  · exact ⟨_, .inr ⟨h, rfl⟩⟩
theorem spots_take {l : List Pk} {k : Nat} {x : Pk} (h : l[k]? = some x) : spots (l.take (k + 1)) = spots (l.take k) ++ spotsP x := by
  rw [take_succ h]; unfold spots; rw [List.flatMap_append]; simp
/-- The spots up to an item. -/
def spotsTo (l : List Pk) (k j : Nat) : List Sp := spots (l.take k) ++ ((l[k]?.map fun p => (spotsP p).take j).getD [])
theorem spotsTo_zero (l : List Pk) (k : Nat) : spotsTo l k 0 = spots (l.take k) := by
  unfold spotsTo
  cases l[k]? <;> simp
theorem spotsTo_step {l : List Pk} {k j : Nat} {x : Pk} {y : It} (h : l[k]? = some x) (hy : x.its[j]? = some y) : spotsTo l k (j + 1) = spotsTo l k j ++ [⟨y.n, x.no⟩] := by
  unfold spotsTo
  rw [h]
  simp only [Option.map_some, Option.getD_some]
  rw [List.append_assoc]
  congr 1
  refine take_succ (k := j) ?_
  unfold spotsP
  rw [List.getElem?_map, hy]; rfl
theorem spotsTo_end {l : List Pk} {k : Nat} {x : Pk} (h : l[k]? = some x) : spotsTo l k x.its.length = spots (l.take (k + 1)) := by
  rw [spots_take h]
  unfold spotsTo
  rw [h]
  simp only [Option.map_some, Option.getD_some]
  congr 1
  unfold spotsP
  exact List.take_of_length_le (by rw [List.length_map]; exact Nat.le_refl _)
theorem spotsTo_sub {l : List Pk} {k j : Nat} : ∀ s ∈ spotsTo l k j, s ∈ spots l := fun s hs => by
  unfold spotsTo at hs
  rcases List.mem_append.1 hs with h | h
  · obtain ⟨p, hp, hs⟩ := List.mem_flatMap.1 h
    exact List.mem_flatMap.2 ⟨p, List.mem_of_mem_take hp, hs⟩
  · cases hk : l[k]? with
    | none => rw [hk] at h; cases h
    | some x =>
      rw [hk] at h
      exact List.mem_flatMap.2 ⟨x, List.mem_of_getElem? hk, List.mem_of_mem_take h⟩
theorem spotsTo_len {l : List Pk} {k j : Nat} {x : Pk} (h : l[k]? = some x) : (spotsTo l k j).length ≤ (spots l).length := by
  have h1 : spots l = spots (l.take k) ++ spots (l.drop k) := by
    unfold spots
    rw [← List.flatMap_append, List.take_append_drop]
  rw [h1]
  unfold spotsTo
  rw [h, List.length_append, List.length_append]
  have : l.drop k = x :: l.drop (k + 1) := by
    rw [List.drop_eq_getElem_cons (lt_of_some h)]
    congr 1
    exact (List.getElem?_eq_some_iff.1 h).2
  rw [this]
  unfold spots
  rw [List.flatMap_cons, List.length_append]
  simp only [Option.map_some, Option.getD_some, List.length_take]
  omega
theorem IOf.len {l : List Pk} {r : List Sp} (h : IOf l r) : r.length ≤ (spots l).length := by
  rcases h with ⟨_, rfl⟩ | ⟨_, rfl⟩
  · have := putsS_len (a := spots l) (l := [])
    simpa using this
  · exact Nat.zero_le _
theorem IOf.ix {l : List Pk} {r : List Sp} (h : IOf l r) : ixP r := by
  rcases h with ⟨h, rfl⟩ | ⟨_, rfl⟩
  · exact putsS_ix ix_nil h
  · exact ix_nil
end Go.Proofs.YtpdkgpbfmpekgaaGreatDoor
