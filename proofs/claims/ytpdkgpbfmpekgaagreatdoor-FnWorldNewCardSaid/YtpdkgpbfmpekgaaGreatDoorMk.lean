


/- Rows that are made whole, marked, and looked at again: what the exact laws' helpers do. -/
import Derived.Test.YtpdkgpbfmpekgaaGreatDoorFlat
import Derived.Laws.MakeOwn
import Derived.Laws.OwnMore
namespace Go.Proofs.YtpdkgpbfmpekgaaGreatDoor
open Go.RowKit

/-- A call that makes a row of its own. -/
def NewFlat {α : Type} (F : Flat α) (te : TypeId) (w : World) (xs : List α) (e : Ending) (w' : World) : Prop := ∃ v, e = .returned v ∧ OwnF F te w' w.heap.size v xs ∧ Below w.heap.size w w'
theorem make_flat {P : Program} (t e : TypeId) (z : Value) (sz bytes : Nat) (ht : P.underlying t = some (.slice e)) (hinfo : (P.info? e).map (fun i => (i.zero, i.size, i.bytes)) = some (some z, sz, bytes))
    (n : Nat) (hbytes : bytes * n ≤ 281474976710656) (h63 : n ≤ 9223372036854775807) (w : World) :
    (Instr.makeSlice t (.int .i64 (n : Int)) (.int .i64 (n : Int))).run P w = .ok (.slice (some ⟨w.heap.size, 0, none⟩) n n) (w.alloc (.cells (madeCells z.cells (n * sz)) e)) := by
  obtain ⟨i, hi, hz, hs, hb⟩ := info_parts hinfo
  have hb' : (i.bytes : Int) * (n : Int) ≤ 281474976710656 := by
    have h : ((i.bytes * n : Nat) : Int) ≤ 281474976710656 := by rw [hb]; omega
    rwa [Int.natCast_mul] at h
  have hr := run_make (P := P) w t e i z ht hi hz .i64 .i64 n n (by omega) (Int.le_refl _) hb' (by omega)
  simp only [Int.toNat_natCast, hs] at hr
  exact hr
/-- A row written to the end is owned. -/
theorem Pre.own {α : Type} {F : Flat α} {w : World} {g : Nat} {e : TypeId} {xs : List α} {base : Nat} (h : Pre w g e (xs.length * F.sz) (flats F xs)) (hb : base ≤ g) (hm : xs.length ≤ maxLen) : OwnF F e w base (.slice (some ⟨g, 0, none⟩) xs.length xs.length) xs := by
  obtain ⟨cs, hk, hs, hc⟩ := h
  refine ⟨flats_len F xs, .inr ⟨g, xs.length, cs, rfl, hb, hk, Nat.le_refl _, hm, hs, ?_⟩⟩
  apply List.ext_getElem?
  intro j
  rw [List.getElem?_take]
  by_cases hj : j < xs.length * F.sz
  · rw [if_pos hj]
    have hj' : j < (flats F xs).length := by rw [flats_len]; exact hj
    rw [List.getElem?_eq_getElem hj', ← hc j _ (List.getElem?_eq_getElem hj')]
    simp
  · rw [if_neg hj, List.getElem?_eq_none (by rw [flats_len]; omega)]

/-- n marks from k on, as cells. -/
def markC (k : Int) : Nat → List Value
  | 0 => []
  | n + 1 => markC k n ++ [.int .i64 (k + n)]
theorem markC_len (k : Int) : ∀ n : Nat, (markC k n).length = n
  | 0 => rfl
  | n + 1 => by show (markC k n ++ [_]).length = _; rw [List.length_append, markC_len k n]; rfl
theorem markC_get (k : Int) : ∀ (n j : Nat), j < n → (markC k n)[j]? = some (.int .i64 (k + j))
  | 0, j, h => by omega
  | n + 1, j, h => by
    show (markC k n ++ [.int .i64 (k + (n : Int))])[j]? = _
    by_cases hj : j < n
    · rw [List.getElem?_append_left (by rw [markC_len]; exact hj), markC_get k n j hj]
    · obtain rfl : j = n := by omega
      rw [List.getElem?_append_right (by rw [markC_len]; exact Nat.le_refl _), markC_len]
      simp
theorem markC_set (k : Int) (xs : List Value) (j : Nat) (hj : j < xs.length) : (markC k j ++ xs.drop j).set j (.int .i64 (k + j)) = markC k (j + 1) ++ xs.drop (j + 1) := by
  rw [List.set_append_right _ _ (by rw [markC_len]; exact Nat.le_refl _), markC_len, Nat.sub_self, List.drop_eq_getElem_cons hj, List.set_cons_zero]
  show _ = markC k j ++ [.int .i64 (k + (j : Int))] ++ _
  simp
theorem row_there {w : World} {base : Nat} {e : TypeId} {sz n g cap : Nat} {xs : List Value} (h : w.ownsRow base e sz (.slice (some ⟨g, 0, none⟩) n cap) n xs) {j : Nat} (hj : j < n * sz) : ∃ u, w.cell? ⟨g, j, none⟩ = some u := by
  rw [h.cellAt j hj]
  exact ⟨_, List.getElem?_eq_getElem (by rw [h.1]; exact hj)⟩
theorem mark_push {w : World} {base : Nat} {e : TypeId} {sz n g cap : Nat} {cs : List Value} {k : Int} {j : Nat} (h : w.ownsRow base e sz (.slice (some ⟨g, 0, none⟩) n cap) n (markC k j ++ cs.drop j)) (hj : j < cs.length) :
    (w.setCell ⟨g, j, none⟩ (.int .i64 (k + j))).ownsRow base e sz (.slice (some ⟨g, 0, none⟩) n cap) n (markC k (j + 1) ++ cs.drop (j + 1)) := by
  rw [← markC_set k cs j hj]
  exact (h.stored j _).1
end Go.Proofs.YtpdkgpbfmpekgaaGreatDoor
