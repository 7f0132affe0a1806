


/- Snapshots, heads, stores: how they read, and what of them is owned. -/
import Derived.Test.YtpdkgpbfmpekgaaGreatDoorPk
import Derived.Test.YtpdkgpbfmpekgaaGreatDoorMt
namespace Go.Proofs.YtpdkgpbfmpekgaaGreatDoor
open Go.RowKit

structure Ls where
  p : ByteArray
  ns : List Int
structure Sn where
  no : Int
  all : List Ls
structure Hd where
  b : Int
  s : Int
structure Sto where
  pk : List Pk
  sn : List Sn
  lg : List Hd
def FHd : Flat Hd := ⟨2, fun x => [.int .i64 x.b, .int .i64 x.s], fun x => In64 x.b ∧ In64 x.s, fun _ => rfl, fun x u hu => by simp at hu; rcases hu with rfl | rfl <;> rfl, by decide⟩
/-! ### Readings -/
abbrev RItsL : Rep (List It) := RSl (RFlat FIt) 2
def RPkL : Rep Pk := fun w lo hi x cs => ∃ v, cs = [.int .i64 x.no, v] ∧ In64 x.no ∧ RItsL w lo hi x.its [v]
abbrev RPksL : Rep (List Pk) := RSl RPkL 2
def RLsL : Rep Ls := fun w lo hi x cs => ∃ v, cs = [.string x.p, v] ∧ x.p.size ≤ maxLen ∧ RSl RInt 1 w lo hi x.ns [v]
abbrev RLssL : Rep (List Ls) := RSl RLsL 2
def RSnL : Rep Sn := fun w lo hi x cs => ∃ v, cs = [.int .i64 x.no, v] ∧ In64 x.no ∧ RLssL w lo hi x.all [v]
abbrev RSnsL : Rep (List Sn) := RSl RSnL 2
abbrev RHdsL : Rep (List Hd) := RSl (RFlat FHd) 2
theorem RItsL.loc : Loc RItsL := RSl.loc (RFlat.loc FIt)
theorem RPkL.loc : Loc RPkL := ⟨fun h h1 h2 ⟨v, e, i, hr⟩ => ⟨v, e, i, RItsL.loc.go h h1 h2 hr⟩⟩
theorem RPksL.loc : Loc RPksL := RSl.loc RPkL.loc
theorem RIntsL.loc : Loc (RSl RInt 1) := RSl.loc RInt.loc
theorem RLsL.loc : Loc RLsL := ⟨fun h h1 h2 ⟨v, e, i, hr⟩ => ⟨v, e, i, RIntsL.loc.go h h1 h2 hr⟩⟩
theorem RLssL.loc : Loc RLssL := RSl.loc RLsL.loc
theorem RSnL.loc : Loc RSnL := ⟨fun h h1 h2 ⟨v, e, i, hr⟩ => ⟨v, e, i, RLssL.loc.go h h1 h2 hr⟩⟩
theorem RSnsL.loc : Loc RSnsL := RSl.loc RSnL.loc
theorem RHdsL.loc : Loc RHdsL := RSl.loc (RFlat.loc FHd)
theorem RSl.map_ {α : Type} {E E' : Rep α} (he : ∀ {w : World} {lo hi : Nat} {x : α} {es : List Value}, E w lo hi x es → E' w lo hi x es) {sz : Nat} {w : World} {lo hi : Nat} {xs : List α} {cs : List Value} (h : RSl E sz w lo hi xs cs) : RSl E' sz w lo hi xs cs := by
  obtain ⟨A, c, hcs, hc, hm, hh⟩ := h
  refine ⟨A, c, hcs, hc, hm, fun hp => ?_⟩
  obtain ⟨b, off, hA, h1, h2, hat⟩ := hh hp
  refine ⟨b, off, hA, h1, h2, fun i x hi => ?_⟩
  obtain ⟨es, e1, e2, e3⟩ := hat i x hi
  exact ⟨es, e1, he e2, e3⟩
theorem RPk.l {w : World} {lo hi : Nat} {x : Pk} {cs : List Value} (h : RPk w lo hi x cs) : RPkL w lo hi x cs := by
  obtain ⟨v, e, i, hr⟩ := h
  exact ⟨v, e, i, hr.1⟩
theorem RPks.l {w : World} {lo hi : Nat} {x : List Pk} {cs : List Value} (h : RPks w lo hi x cs) : RPksL w lo hi x cs := RSl.map_ RPk.l h.1
/-! ### Owned -/
abbrev OIts : Rep (List It) := ORow 110 (RFlat FIt) 2
def OPk : Rep Pk := fun w lo hi x cs => ∃ v, cs = [.int .i64 x.no, v] ∧ In64 x.no ∧ OIts w lo hi x.its [v]
abbrev OPks : Rep (List Pk) := ORow 40 OPk 2
abbrev OInts : Rep (List Int) := ORow 3 (RFlat FInt) 1
theorem OIts.tloc : TLoc OIts [110] := ORow.tloc (RFlat.tloc FIt)
theorem OPk.tloc : TLoc OPk [110] := ⟨fun h h1 h2 ⟨v, e, i, hr⟩ => ⟨v, e, i, OIts.tloc.go h h1 h2 hr⟩⟩
theorem OPks.tloc : TLoc OPks [40, 110] := ORow.tloc OPk.tloc
theorem OInts.tloc : TLoc OInts [3] := ORow.tloc (RFlat.tloc FInt)
theorem OIts.l {w : World} {lo hi : Nat} {x : List It} {cs : List Value} (h : OIts w lo hi x cs) : RItsL w lo hi x cs := ORow.sl (RFlat.loc FIt) (fun h => h) h
theorem OIts.t {w : World} {lo hi : Nat} {x : List It} {cs : List Value} (h : OIts w lo hi x cs) : RIts w lo hi x cs := ORow.slT (RFlat.loc FIt) (fun h => h) h
theorem OPk.l {w : World} {lo hi : Nat} {x : Pk} {cs : List Value} (h : OPk w lo hi x cs) : RPkL w lo hi x cs := by
  obtain ⟨v, e, i, hr⟩ := h
  exact ⟨v, e, i, OIts.l hr⟩
theorem OPk.t {w : World} {lo hi : Nat} {x : Pk} {cs : List Value} (h : OPk w lo hi x cs) : RPk w lo hi x cs := by
  obtain ⟨v, e, i, hr⟩ := h
  exact ⟨v, e, i, OIts.t hr⟩
theorem OPks.l {w : World} {lo hi : Nat} {x : List Pk} {cs : List Value} (h : OPks w lo hi x cs) : RPksL w lo hi x cs := ORow.sl RPkL.loc OPk.l h
theorem OPks.t {w : World} {lo hi : Nat} {x : List Pk} {cs : List Value} (h : OPks w lo hi x cs) : RPks w lo hi x cs := ORow.slT RPk.tloc.loc OPk.t h
theorem OInts.l {w : World} {lo hi : Nat} {x : List Int} {cs : List Value} (h : OInts w lo hi x cs) : RSl RInt 1 w lo hi x cs := ORow.sl RInt.loc (fun h => h) h
def OLs : Rep Ls := fun w lo hi x cs => ∃ v, cs = [.string x.p, v] ∧ x.p.size ≤ maxLen ∧ OInts w lo hi x.ns [v]
abbrev OLss : Rep (List Ls) := ORow 114 OLs 2
def OSn : Rep Sn := fun w lo hi x cs => ∃ v, cs = [.int .i64 x.no, v] ∧ In64 x.no ∧ OLss w lo hi x.all [v]
abbrev OSns : Rep (List Sn) := ORow 35 OSn 2
abbrev OHds : Rep (List Hd) := ORow 76 (RFlat FHd) 2
theorem OLs.tloc : TLoc OLs [3] := ⟨fun h h1 h2 ⟨v, e, i, hr⟩ => ⟨v, e, i, OInts.tloc.go h h1 h2 hr⟩⟩
theorem OLss.tloc : TLoc OLss [114, 3] := ORow.tloc OLs.tloc
theorem OSn.tloc : TLoc OSn [114, 3] := ⟨fun h h1 h2 ⟨v, e, i, hr⟩ => ⟨v, e, i, OLss.tloc.go h h1 h2 hr⟩⟩
theorem OSns.tloc : TLoc OSns [35, 114, 3] := ORow.tloc OSn.tloc
theorem OHds.tloc : TLoc OHds [76] := ORow.tloc (RFlat.tloc FHd)
theorem OLs.l {w : World} {lo hi : Nat} {x : Ls} {cs : List Value} (h : OLs w lo hi x cs) : RLsL w lo hi x cs := by
  obtain ⟨v, e, i, hr⟩ := h
  exact ⟨v, e, i, OInts.l hr⟩
theorem OLss.l {w : World} {lo hi : Nat} {x : List Ls} {cs : List Value} (h : OLss w lo hi x cs) : RLssL w lo hi x cs := ORow.sl RLsL.loc OLs.l h
theorem OSn.l {w : World} {lo hi : Nat} {x : Sn} {cs : List Value} (h : OSn w lo hi x cs) : RSnL w lo hi x cs := by
  obtain ⟨v, e, i, hr⟩ := h
  exact ⟨v, e, i, OLss.l hr⟩
theorem OSns.l {w : World} {lo hi : Nat} {x : List Sn} {cs : List Value} (h : OSns w lo hi x cs) : RSnsL w lo hi x cs := ORow.sl RSnL.loc OSn.l h
theorem OHds.l {w : World} {lo hi : Nat} {x : List Hd} {cs : List Value} (h : OHds w lo hi x cs) : RHdsL w lo hi x cs := ORow.sl (RFlat.loc FHd) (fun h => h) h
/-! ### Bulk -/
/-- What is left of k behind b; -1, if nothing. -/
def sub0 (k : Int) (b : Nat) : Int := if k - b < 0 then -1 else k - b
def bulkS {α : Type} (f : α → Nat) (l : List α) : Nat := l.length + (l.map f).sum
def bulkTo {α : Type} (f : α → Nat) (l : List α) (j : Nat) : Nat := l.length + ((l.take j).map f).sum
theorem bulkTo_zero {α : Type} (f : α → Nat) (l : List α) : bulkTo f l 0 = l.length := rfl
theorem bulkTo_step {α : Type} {f : α → Nat} {l : List α} {j : Nat} {x : α} (h : l[j]? = some x) : bulkTo f l (j + 1) = bulkTo f l j + f x := by
  unfold bulkTo
  rw [take_succ h, List.map_append, List.sum_append]
  simp only [List.map_cons, List.map_nil, List.sum_cons, List.sum_nil]
  omega
theorem bulkTo_all {α : Type} (f : α → Nat) (l : List α) : bulkTo f l l.length = bulkS f l := by unfold bulkTo bulkS; rw [List.take_length]
theorem bulkTo_le {α : Type} {f : α → Nat} {l : List α} {j : Nat} : bulkTo f l j ≤ bulkS f l := by
  unfold bulkTo bulkS
  have h : l.map f = (l.take j).map f ++ (l.drop j).map f := by rw [← List.map_append, List.take_append_drop]
  rw [h, List.sum_append]; omega
theorem bulkS_mem {α : Type} {f : α → Nat} : ∀ {l : List α} {x : α}, x ∈ l → f x ≤ bulkS f l
  | [], _, h => by cases h
  | y :: l, x, h => by
    have e : bulkS f (y :: l) = bulkS f l + 1 + f y := by unfold bulkS; simp only [List.length_cons, List.map_cons, List.sum_cons]; omega
    rcases List.mem_cons.1 h with rfl | h
    · omega
    · have := bulkS_mem (f := f) h; omega
theorem bulkS_len {α : Type} {f : α → Nat} {l : List α} : l.length ≤ bulkS f l := by unfold bulkS; omega
theorem sub0_neg {k : Int} {b : Nat} (h : k - b < 0) : sub0 k b = -1 := if_pos h
theorem sub0_pos {k : Int} {b : Nat} (h : 0 ≤ k - b) : sub0 k b = k - b := if_neg (by omega)
def bIt (x : It) : Nat := x.b.size
def bPk (x : Pk) : Nat := bulkS bIt x.its
def bLs (x : Ls) : Nat := x.p.size + x.ns.length
def bSn (x : Sn) : Nat := bulkS bLs x.all
/-! ### Marked -/
/-- Elements marked one behind the other: f marks one from k on, n is how many marks it takes. -/
def markL {α : Type} (f : Int → α → α) (n : α → Nat) : Int → List α → List α
  | _, [] => []
  | k, x :: xs => f k x :: markL f n (k + n x) xs
def cntTo {α : Type} (n : α → Nat) (l : List α) (j : Nat) : Nat := ((l.take j).map n).sum
def cntS {α : Type} (n : α → Nat) (l : List α) : Nat := (l.map n).sum
theorem cntTo_zero {α : Type} (n : α → Nat) (l : List α) : cntTo n l 0 = 0 := rfl
theorem cntTo_step {α : Type} {n : α → Nat} {l : List α} {j : Nat} {x : α} (h : l[j]? = some x) : cntTo n l (j + 1) = cntTo n l j + n x := by
  unfold cntTo
  rw [take_succ h, List.map_append, List.sum_append]
  simp
theorem cntTo_all {α : Type} (n : α → Nat) (l : List α) : cntTo n l l.length = cntS n l := by unfold cntTo cntS; rw [List.take_length]
theorem cntTo_le {α : Type} {n : α → Nat} {l : List α} {j : Nat} : cntTo n l j ≤ cntS n l := by
  unfold cntTo cntS
  have h : l.map n = (l.take j).map n ++ (l.drop j).map n := by rw [← List.map_append, List.take_append_drop]
  rw [h, List.sum_append]; omega
theorem markL_len {α : Type} (f : Int → α → α) (n : α → Nat) : ∀ (l : List α) (k : Int), (markL f n k l).length = l.length
  | [], _ => rfl
  | x :: l, k => by show (markL f n (k + n x) l).length + 1 = _; rw [markL_len f n l]; rfl
theorem markL_get {α : Type} (f : Int → α → α) (n : α → Nat) : ∀ (l : List α) (k : Int) (j : Nat) (x : α), l[j]? = some x → (markL f n k l)[j]? = some (f (k + cntTo n l j) x)
  | [], _, _, _, h => by simp at h
  | y :: l, k, 0, x, h => by
    simp at h
    subst h
    show some (f k y) = _
    rw [cntTo_zero]; simp
  | y :: l, k, j + 1, x, h => by
    have h' : l[j]? = some x := by simpa using h
    show (markL f n (k + n y) l)[j]? = _
    rw [markL_get f n l _ j x h']
    have e : cntTo n (y :: l) (j + 1) = n y + cntTo n l j := by unfold cntTo; simp
    rw [e]
    congr 2
    omega
/-- Marked up to j. -/
def markTo {α : Type} (f : Int → α → α) (n : α → Nat) (k : Int) (l : List α) (j : Nat) : List α := (markL f n k l).take j ++ l.drop j
theorem markTo_zero {α : Type} (f : Int → α → α) (n : α → Nat) (k : Int) (l : List α) : markTo f n k l 0 = l := rfl
theorem markTo_all {α : Type} (f : Int → α → α) (n : α → Nat) (k : Int) (l : List α) : markTo f n k l l.length = markL f n k l := by
  unfold markTo
  rw [List.drop_length, List.append_nil, List.take_of_length_le (by rw [markL_len]; exact Nat.le_refl _)]
theorem markTo_len {α : Type} (f : Int → α → α) (n : α → Nat) (k : Int) (l : List α) {j : Nat} (hj : j ≤ l.length) : (markTo f n k l j).length = l.length := by
  unfold markTo
  rw [List.length_append, List.length_take, List.length_drop, markL_len]; omega
theorem markTo_get {α : Type} (f : Int → α → α) (n : α → Nat) (k : Int) {l : List α} {j : Nat} {x : α} (h : l[j]? = some x) : (markTo f n k l j)[j]? = some x := by
  unfold markTo
  have hj := lt_of_some h
  have hl : ((markL f n k l).take j).length = j := by rw [List.length_take, markL_len]; omega
  rw [List.getElem?_append_right (by omega), hl, Nat.sub_self, List.getElem?_drop, Nat.add_zero]
  exact h
theorem markTo_step {α : Type} (f : Int → α → α) (n : α → Nat) (k : Int) {l : List α} {j : Nat} {x : α} (h : l[j]? = some x) : (markTo f n k l j).set j (f (k + cntTo n l j) x) = markTo f n k l (j + 1) := by
  have hj := lt_of_some h
  have hl : ((markL f n k l).take j).length = j := by rw [List.length_take, markL_len]; omega
  unfold markTo
  rw [List.set_append_right _ _ (by omega), hl, Nat.sub_self, List.drop_eq_getElem_cons hj, List.set_cons_zero, take_succ (markL_get f n l k j x h), List.append_assoc]
  rfl
def nIt (_ : It) : Nat := 2
def mIt (k : Int) (_ : It) : It := ⟨k, mt (k + 1)⟩
def nPk (x : Pk) : Nat := 1 + cntS nIt x.its
def mPk (k : Int) (x : Pk) : Pk := ⟨k, markL mIt nIt (k + 1) x.its⟩
def nHd (_ : Hd) : Nat := 2
def mHd (k : Int) (_ : Hd) : Hd := ⟨k, k + 1⟩
theorem list_set_set {α : Type} : ∀ (l : List α) (j : Nat) (a b : α), (l.set j a).set j b = l.set j b
  | [], _, _, _ => rfl
  | _ :: _, 0, _, _ => rfl
  | x :: l, j + 1, a, b => by show x :: (l.set j a).set j b = x :: l.set j b; rw [list_set_set l j a b]
/-- What a block of such a type was, it was. -/
theorem typed_back {S : Nat → Prop} {w w' : World} (h : Chg S w w') {T U : List TypeId} (hT : ∀ t ∈ T, t ∈ U) {b hi : Nat} (hb : b < hi) (hhi : hi ≤ w.heap.size) (hS : S b → Typed w U b) (ht : Typed w' T b) : Typed w U b := by
  by_cases hs : S b
  · exact hS hs
  · obtain ⟨t, h1, ds, hd⟩ := ht
    exact ⟨t, hT t h1, ds, (h.block b (by omega) hs).symm.trans hd⟩
end Go.Proofs.YtpdkgpbfmpekgaaGreatDoor
