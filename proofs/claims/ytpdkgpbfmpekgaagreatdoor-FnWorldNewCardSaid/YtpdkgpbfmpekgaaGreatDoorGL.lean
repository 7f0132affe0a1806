/- Lie, LieC, LieD, LieE, LieF, LieG. -/
import Derived.Test.YtpdkgpbfmpekgaaGreatDoorGC
import Derived.Test.YtpdkgpbfmpekgaaGreatDoorGM



/- Lies: what they make of a store. Heads in part of a row. -/
namespace Go.Proofs.YtpdkgpbfmpekgaaGreatDoor
open Go.RowKit

structure LieV where
  k : Int
  n : Int
  m : Int
  b : ByteArray
def setAt {α : Type} (l : List α) (i : Nat) (f : α → α) : List α := match l[i]? with | some x => l.set i (f x) | none => l
theorem setAt_some {α : Type} {l : List α} {i : Nat} {x : α} (h : l[i]? = some x) (f : α → α) : setAt l i f = l.set i (f x) := by unfold setAt; rw [h]
theorem setAt_len {α : Type} (l : List α) (i : Nat) (f : α → α) : (setAt l i f).length = l.length := by
  unfold setAt
  split
  · rw [List.length_set]
  · rfl
def bodyP (l : LieV) (p : Pk) : Pk := if p.no = l.n ∧ 0 ≤ l.m ∧ l.m < p.its.length then ⟨p.no, setAt p.its l.m.toNat fun x => ⟨x.n, l.b⟩⟩ else p
def forkH (x : Hd) : Hd := ⟨wrap64 (3 - x.b), x.s⟩
/-- What a lie makes of a store. -/
def lieS (s : Sto) (l : LieV) : Sto :=
  if l.k = 1 then ⟨s.pk.filter fun p => !(p.no == l.n), s.sn, s.lg⟩
  else if l.k = 2 then (if 0 ≤ l.n ∧ l.n ≤ s.lg.length then ⟨s.pk, s.sn.filter fun x => !((s.lg.drop l.n.toNat).any fun h => h.s == x.no), s.lg.take l.n.toNat⟩ else s)
  else if l.k = 3 then ⟨s.pk.map (bodyP l), s.sn, s.lg⟩
  else if l.k = 4 then (if 0 ≤ l.n ∧ l.n < s.lg.length then ⟨s.pk, s.sn, setAt s.lg l.n.toNat forkH⟩ else s)
  else s
theorem lieS_1 {s : Sto} {l : LieV} (h : l.k = 1) : lieS s l = ⟨s.pk.filter fun p => !(p.no == l.n), s.sn, s.lg⟩ := by unfold lieS; rw [if_pos h]
theorem lieS_2 {s : Sto} {l : LieV} (h : l.k = 2) (h2 : 0 ≤ l.n ∧ l.n ≤ s.lg.length) : lieS s l = ⟨s.pk, s.sn.filter fun x => !((s.lg.drop l.n.toNat).any fun h => h.s == x.no), s.lg.take l.n.toNat⟩ := by unfold lieS; rw [if_neg (by omega), if_pos h, if_pos h2]
theorem lieS_2n {s : Sto} {l : LieV} (h : l.k = 2) (h2 : ¬ (0 ≤ l.n ∧ l.n ≤ s.lg.length)) : lieS s l = s := by unfold lieS; rw [if_neg (by omega), if_pos h, if_neg h2]
theorem lieS_3 {s : Sto} {l : LieV} (h : l.k = 3) : lieS s l = ⟨s.pk.map (bodyP l), s.sn, s.lg⟩ := by unfold lieS; rw [if_neg (by omega), if_neg (by omega), if_pos h]
theorem lieS_4 {s : Sto} {l : LieV} (h : l.k = 4) (h2 : 0 ≤ l.n ∧ l.n < s.lg.length) : lieS s l = ⟨s.pk, s.sn, setAt s.lg l.n.toNat forkH⟩ := by unfold lieS; rw [if_neg (by omega), if_neg (by omega), if_neg (by omega), if_pos h, if_pos h2]
theorem lieS_4n {s : Sto} {l : LieV} (h : l.k = 4) (h2 : ¬ (0 ≤ l.n ∧ l.n < s.lg.length)) : lieS s l = s := by unfold lieS; rw [if_neg (by omega), if_neg (by omega), if_neg (by omega), if_pos h, if_neg h2]
theorem lieS_5 {s : Sto} {l : LieV} (h1 : ¬ l.k = 1) (h2 : ¬ l.k = 2) (h3 : ¬ l.k = 3) (h4 : ¬ l.k = 4) : lieS s l = s := by unfold lieS; rw [if_neg h1, if_neg h2, if_neg h3, if_neg h4]

/-! ### Heads that lie in part of a row of the call's own -/
def OHw : Rep (List Hd) := fun w lo hi xs cs => ∃ (A : Option Addr) (c : Nat), cs = [.slice A xs.length c] ∧ xs.length ≤ c ∧ c ≤ maxLen ∧ lo ≤ hi ∧ (∀ x ∈ xs, FHd.good x) ∧
  (0 < xs.length → ∃ (g : Nat) (cur : Array Value), A = some ⟨g, 0, none⟩ ∧ lo ≤ g ∧ g < hi ∧ Blk w g 76 cur ∧ ∀ (k : Nat) (u : Value), (flats FHd xs)[k]? = some u → cur[k]? = some u)
theorem OHw.tloc : TLoc OHw [76] := by
  refine ⟨?_⟩
  intro w w' lo hi lo' hi' xs cs hs h1 h2 h
  obtain ⟨A, c, rfl, a, b, c0, d, e⟩ := h
  refine ⟨A, c, rfl, a, b, by omega, d, fun hp => ?_⟩
  obtain ⟨g, cur, rfl, g1, g2, hk, hc⟩ := e hp
  exact ⟨g, cur, rfl, by omega, by omega, (hs g g1 g2 ⟨_, List.mem_cons_self, cur, hk⟩).trans hk, hc⟩
theorem OHw.form {w : World} {lo hi : Nat} {v : Value} {xs : List Hd} (h : OHw w lo hi xs [v]) : ∃ A c, v = .slice A xs.length c := by
  obtain ⟨A, c, e, _⟩ := h
  cases e
  exact ⟨A, c, rfl⟩
theorem OHds.w {w : World} {lo hi : Nat} {xs : List Hd} {cs : List Value} (h : OHds w lo hi xs cs) : OHw w lo hi xs cs := by
  obtain ⟨v, rfl⟩ : ∃ v, cs = [v] := by
    obtain ⟨v, _, rfl, _⟩ := h
    exact ⟨v, rfl⟩
  obtain ⟨ho, hg, hle, hhi⟩ := ORow.flat (F := FHd) h
  rcases ho.2 with ⟨rfl, h0⟩ | ⟨g, cap, cur, rfl, hb, hk, hnc, hcm, hcs, htake⟩
  · exact ⟨none, 0, by rw [h0], by omega, by unfold maxLen; omega, hle, hg, fun hp => by omega⟩
  · refine ⟨_, cap, rfl, hnc, hcm, hle, hg, fun _ => ⟨g, cur, rfl, hb, hhi g rfl, hk, fun k u hu => ?_⟩⟩
    rw [← htake, List.getElem?_take] at hu
    split at hu
    · simpa using hu
    · cases hu
theorem OHw.l {w : World} {lo hi : Nat} {xs : List Hd} {cs : List Value} (h : OHw w lo hi xs cs) : RHdsL w lo hi xs cs := by
  obtain ⟨A, c, rfl, a, b, c0, d, e⟩ := h
  refine ⟨A, c, rfl, a, b, fun hp => ?_⟩
  obtain ⟨g, cur, rfl, g1, g2, hk, hc⟩ := e hp
  refine ⟨g, 0, rfl, g1, g2, fun i x hi => ⟨FHd.cells x, rfl, ⟨rfl, d x (List.mem_of_getElem? hi)⟩, fun j u hu => ?_⟩⟩
  rw [hk.cell, Nat.zero_add]
  exact hc _ _ (flats_get FHd xs i j x u hi hu)
theorem OHw.take_ {w : World} {lo hi n c k : Nat} {A : Option Addr} {xs : List Hd} (h : OHw w lo hi xs [.slice A n c]) (hk : k ≤ xs.length) : OHw w lo hi (xs.take k) [.slice A k k] := by
  obtain ⟨A', c', e, a, b, c0, d, f⟩ := h
  simp only [List.cons.injEq, Value.slice.injEq, and_true] at e
  obtain ⟨rfl, rfl, rfl⟩ := e
  have hl : (xs.take k).length = k := by rw [List.length_take]; omega
  refine ⟨_, k, by rw [hl], by omega, by omega, c0, fun x hx => d x (List.mem_of_mem_take hx), fun hp => ?_⟩
  obtain ⟨g, cur, hA, g1, g2, hk', hc⟩ := f (by omega)
  refine ⟨g, cur, hA, g1, g2, hk', fun j u hu => hc j u ?_⟩
  have e2 : xs = xs.take k ++ xs.drop k := (List.take_append_drop k xs).symm
  rw [e2, flats_append, List.getElem?_append_left (lt_of_some hu)]
  exact hu
theorem OHw.some_ {w : World} {lo hi : Nat} {v : Value} {xs : List Hd} (h : OHw w lo hi xs [v]) (hp : 0 < xs.length) : ∃ g c, v = .slice (some ⟨g, 0, none⟩) xs.length c ∧ lo ≤ g ∧ g < hi ∧ ∃ ds, Blk w g 76 ds := by
  obtain ⟨A, c, e, a, b, c0, d, f⟩ := h
  cases e
  obtain ⟨g, cur, rfl, g1, g2, hk, _⟩ := f hp
  exact ⟨g, c, rfl, g1, g2, cur, hk⟩
theorem OHw.at_ {w : World} {lo hi g n c : Nat} {xs : List Hd} (h : OHw w lo hi xs [.slice (some ⟨g, 0, none⟩) n c]) {i : Nat} {x : Hd} (hx : xs[i]? = some x) :
    FHd.good x ∧ w.cell? ⟨g, i * 2, none⟩ = some (.int .i64 x.b) ∧ w.cell? ⟨g, i * 2 + 1, none⟩ = some (.int .i64 x.s) := by
  obtain ⟨A, c', e, a, b, c0, d, f⟩ := h
  simp only [List.cons.injEq, Value.slice.injEq, and_true] at e
  obtain ⟨rfl, rfl, rfl⟩ := e
  obtain ⟨g', cur, hA, g1, g2, hk, hc⟩ := f (by have := lt_of_some hx; omega)
  simp only [Option.some.injEq, Addr.mk.injEq, and_true] at hA
  subst hA
  refine ⟨d x (List.mem_of_getElem? hx), ?_, ?_⟩
  · rw [hk.cell]; exact hc _ _ (flats_get FHd xs i 0 x _ hx rfl)
  · rw [hk.cell]; exact hc _ _ (flats_get FHd xs i 1 x _ hx rfl)
theorem OHw.frozen {w : World} {lo hi g n c : Nat} {xs : List Hd} (h : OHw w lo hi xs [.slice (some ⟨g, 0, none⟩) n c]) (hp : 0 < xs.length) (j : Nat) : w.frozen? ⟨g, j, none⟩ = false := by
  obtain ⟨A, c', e, a, b, c0, d, f⟩ := h
  simp only [List.cons.injEq, Value.slice.injEq, and_true] at e
  obtain ⟨rfl, rfl, rfl⟩ := e
  obtain ⟨g', cur, hA, g1, g2, hk, hc⟩ := f hp
  simp only [Option.some.injEq, Addr.mk.injEq, and_true] at hA
  subst hA
  exact hk.frozen j
theorem OHw.put {w : World} {lo hi g n c : Nat} {xs : List Hd} (h : OHw w lo hi xs [.slice (some ⟨g, 0, none⟩) n c]) {i j : Nat} {x y : Hd} {u : Value} (hx : xs[i]? = some x) (hj : j < 2) (hg : FHd.good y) (hy : FHd.cells y = (FHd.cells x).set j u) :
    OHw (w.setCell ⟨g, i * 2 + j, none⟩ u) lo hi (xs.set i y) [.slice (some ⟨g, 0, none⟩) n c] := by
  obtain ⟨A, c', e, a, b, c0, d, f⟩ := h
  simp only [List.cons.injEq, Value.slice.injEq, and_true] at e
  obtain ⟨rfl, rfl, rfl⟩ := e
  have hlt := lt_of_some hx
  obtain ⟨g', cur, hA, g1, g2, hk, hc⟩ := f (by omega)
  simp only [Option.some.injEq, Addr.mk.injEq, and_true] at hA
  subst hA
  refine ⟨_, c, by rw [List.length_set], by rw [List.length_set]; exact a, b, c0, fun z hz => ?_, fun _ => ⟨g, cur.setIfInBounds (i * 2 + j) u, rfl, g1, g2, hk.set_ _ _, fun k v hv => ?_⟩⟩
  · rcases List.mem_or_eq_of_mem_set hz with h1 | rfl
    · exact d z h1
    · exact hg
  · rw [flats_set xs i j x y u hx hj hy] at hv
    by_cases hk' : i * 2 + j = k
    · subst hk'
      have hin : i * 2 + j < (flats FHd xs).length := by rw [flats_len]; show _ < xs.length * 2; omega
      rw [show FHd.sz = 2 from rfl, List.getElem?_set_self hin] at hv
      have h2 := hc _ _ (List.getElem?_eq_getElem hin)
      have h3 : i * 2 + j < cur.size := (Array.getElem?_eq_some_iff.1 h2).1
      rw [Array.getElem?_setIfInBounds, if_pos rfl, if_pos h3]
      exact hv
    · rw [show FHd.sz = 2 from rfl, List.getElem?_set_ne hk'] at hv
      rw [Array.getElem?_setIfInBounds, if_neg hk']
      exact hc k v hv
/-- A store that is owned, its log in part of a row. -/
structure OStW (w : World) (lo hi : Nat) (s : Sto) (va vb vc : Value) : Prop where
  pk : OPks w lo hi s.pk [va]
  sn : OSns w lo hi s.sn [vb]
  lg : OHw w lo hi s.lg [vc]
theorem OSto.w {w : World} {lo hi : Nat} {s : Sto} {va vb vc : Value} (h : OSto w lo hi s va vb vc) : OStW w lo hi s va vb vc := ⟨h.pk, h.sn, OHds.w h.lg⟩
theorem OStW.go {w w' : World} {lo hi lo' hi' : Nat} {s : Sto} {va vb vc : Value} (h : OStW w lo hi s va vb vc) (hs : ∀ b, lo ≤ b → b < hi → w'.heap[b]? = w.heap[b]?) (h1 : lo' ≤ lo) (h2 : hi ≤ hi') : OStW w' lo' hi' s va vb vc :=
  ⟨OPks.tloc.loc.go hs h1 h2 h.pk, OSns.tloc.loc.go hs h1 h2 h.sn, OHw.tloc.loc.go hs h1 h2 h.lg⟩
theorem OStW.below {w w' : World} {lo hi B : Nat} {s : Sto} {va vb vc : Value} (h : OStW w lo hi s va vb vc) (hb : Below B w w') (hB : hi ≤ B) : OStW w' lo hi s va vb vc := h.go (fun b _ h2 => hb.block b (by omega)) (Nat.le_refl _) (Nat.le_refl _)
theorem OStW.l {w : World} {lo hi : Nat} {s : Sto} {va vb vc : Value} (h : OStW w lo hi s va vb vc) : RStoL w lo hi s va vb vc := ⟨OPks.l h.pk, OSns.l h.sn, OHw.l h.lg⟩
end Go.Proofs.YtpdkgpbfmpekgaaGreatDoor




/- The closures of a lie. -/
namespace Go.Proofs.YtpdkgpbfmpekgaaGreatDoor
open Go.RowKit

abbrev LieC (l : LieV) : Array Value := #[.int .i64 l.k, .int .i64 l.n, .int .i64 l.m, .string l.b]
/-- What a closure of a lie does to the store in block gs. -/
def Lies (s s' : Sto) (w : World) (lo hi gs : Nat) (T : List TypeId) (e : Ending) (w' : World) : Prop :=
  e = .returned (.tuple #[]) ∧ ∃ va vb vc, Blk w' gs 27 #[va, vb, vc] ∧ OStW w' lo hi s' va vb vc ∧ Chg (fun b => b = gs ∨ (lo ≤ b ∧ b < hi ∧ Typed w T b)) w w'
theorem typed_ne {w : World} {T : List TypeId} {g : Nat} {t : TypeId} {cs : Array Value} (hk : Blk w g t cs) (ht : t ∉ T) : ¬ Typed w T g := fun ⟨t', h1, ds, hd⟩ => ht (blk_type hk hd ▸ h1)
theorem typed_ne' {w : World} {T U : List TypeId} {b : Nat} (h : Typed w U b) (hT : ∀ t ∈ T, t ∉ U) : ¬ Typed w T b := fun ⟨t', h1, ds, hd⟩ => by
  obtain ⟨t, h2, cs, hk⟩ := h
  exact hT t' h1 (blk_type hk hd ▸ h2)
set_option maxRecDepth 8000 in
theorem lie11 (l : LieV) (gl : Nat) (Q : World → Prop) (hQ : ∀ w', Q w' → Blk w' gl 59 (LieC l)) : Asks 142 #[.pointer (some ⟨gl, 0, none⟩)] (fun n => n == l.n) Q := by
  intro n A m c w' hq
  have k := hQ w' hq
  have ck : w'.cell? ⟨gl, 1, none⟩ = some (.int .i64 l.n) := k.cell 1
  show Calls _ _ #[.agg #[.int .i64 n, .slice A m c], .pointer (some ⟨gl, 0, none⟩)] _ _
  have hb := below_alloc w' (.cells #[.int .i64 n, .slice A m c] 40)
  have ck2 := cell_keep hb ck
  go_enter Tryz.func142, Tryz.ntmps142
  go_wp2_with fail
  go_ret
  exact ⟨rfl, hb⟩
theorem isFn11 : IsFn 142 := isFn Tryz.func142 (by kernel_rfl) rfl
set_option maxRecDepth 8000 in
theorem lie1_any (s : Sto) (l : LieV) (gs gl : Nat) (va vb vc : Value) (w : World) (lo hi : Nat) (h : OStW w lo hi s va vb vc) (hhi : hi ≤ w.heap.size) (hs : Blk w gs 27 #[va, vb, vc]) (hl : Blk w gl 59 (LieC l)) (hk : l.k = 1) :
    Calls Tryz.prog 140 #[.pointer (some ⟨gs, 0, none⟩), .pointer (some ⟨gl, 0, none⟩)] w (Lies s (lieS s l) w lo hi gs [40]) := by
  rw [lieS_1 hk]
  obtain ⟨h1, h2, h3⟩ := h
  obtain ⟨A, a, rfl⟩ := ORow.form h1
  have c0 : w.cell? ⟨gs, 0, none⟩ = some (.slice A s.pk.length a) := hs.cell 0
  go_enter Tryz.func140, Tryz.ntmps140
  go_wp2_with fail
  refine (deleteFunc_pk 142 _ (fun n => n == l.n) s.pk _ w lo hi h1 hhi isFn11 (lie11 l gl _ fun w' hq => blk_chg hl hq fun hs => typed_ne hl (by decide) hs.2.2)).mono ?_
  rintro e w1 ⟨v', rfl, o1, c1⟩
  obtain ⟨A1, a1, rfl⟩ := ORow.form o1
  have hs1 := blk_chg hs c1 fun hx => typed_ne hs (by decide) hx.2.2
  have c01 : w1.cell? ⟨gs, 0, none⟩ = some (.slice A s.pk.length a) := hs1.cell 0
  have fr := hs1.frozen 0
  have z1 := c1.size
  have hs2 := hs1.set_ 0 (.slice A1 (s.pk.filter fun p => !(p.no == l.n)).length a1)
  have o2 := OSns.tloc.go (w' := w1) (lo' := lo) (hi' := hi) (fun b b1 b2 ht => c1.block b (by omega) fun hx => typed_ne' ht (by decide) hx.2.2) (Nat.le_refl _) (Nat.le_refl _) h2
  have o3 := OHw.tloc.go (w' := w1) (lo' := lo) (hi' := hi) (fun b b1 b2 ht => c1.block b (by omega) fun hx => typed_ne' ht (by decide) hx.2.2) (Nat.le_refl _) (Nat.le_refl _) h3
  have hke : ∀ (u : Value) {T : List TypeId} (b : Nat), 27 ∉ T → Typed w1 T b → (w1.setCell ⟨gs, 0, none⟩ u).heap[b]? = w1.heap[b]? := fun u T b hT ht => Below.heap_setCell _ _ _ _ (by rintro rfl; exact typed_ne hs1 hT ht)
  have q1 := OPks.tloc.go (w' := w1.setCell ⟨gs, 0, none⟩ (.slice A1 (s.pk.filter fun p => !(p.no == l.n)).length a1)) (lo' := lo) (hi' := hi) (fun b b1 b2 ht => hke _ b (by decide) ht) (Nat.le_refl _) (Nat.le_refl _) o1
  have q2 := OSns.tloc.go (w' := w1.setCell ⟨gs, 0, none⟩ (.slice A1 (s.pk.filter fun p => !(p.no == l.n)).length a1)) (lo' := lo) (hi' := hi) (fun b b1 b2 ht => hke _ b (by decide) ht) (Nat.le_refl _) (Nat.le_refl _) o2
  have q3 := OHw.tloc.go (w' := w1.setCell ⟨gs, 0, none⟩ (.slice A1 (s.pk.filter fun p => !(p.no == l.n)).length a1)) (lo' := lo) (hi' := hi) (fun b b1 b2 ht => hke _ b (by decide) ht) (Nat.le_refl _) (Nat.le_refl _) o3
  have hch := (c1.mono (T := fun b => b = gs ∨ (lo ≤ b ∧ b < hi ∧ Typed w [40] b)) fun b _ hb => .inr hb).setCell (p := ⟨gs, 0, none⟩) (.inl (.inl rfl)) (.slice A1 (s.pk.filter fun p => !(p.no == l.n)).length a1)
  have HQ := Lib.hid (And.intro q1 (And.intro q2 (And.intro q3 (And.intro hch hs2))))
  clear q1 q2 q3 hch hs2 hke o1 o2 o3 hs1
  go_wp2_with fail
  go_end0
  exact ⟨rfl, _, _, _, by simpa using HQ.out.2.2.2.2, ⟨HQ.out.1, HQ.out.2.1, HQ.out.2.2.1⟩, HQ.out.2.2.2.1⟩
end Go.Proofs.YtpdkgpbfmpekgaaGreatDoor




/- The closures of a lie that spoils a body, and of one that forks the log. -/
namespace Go.Proofs.YtpdkgpbfmpekgaaGreatDoor
open Go.RowKit

def mapTo {α : Type} (f : α → α) (l : List α) (j : Nat) : List α := (l.take j).map f ++ l.drop j
theorem mapTo_zero {α : Type} (f : α → α) (l : List α) : mapTo f l 0 = l := rfl
theorem mapTo_all {α : Type} (f : α → α) (l : List α) : mapTo f l l.length = l.map f := by
  unfold mapTo
  rw [List.take_length, List.drop_length, List.append_nil]
theorem mapTo_len {α : Type} (f : α → α) (l : List α) (j : Nat) : (mapTo f l j).length = l.length := by
  unfold mapTo
  rw [List.length_append, List.length_map, List.length_take, List.length_drop]; omega
theorem mapTo_get {α : Type} (f : α → α) {l : List α} {j : Nat} {x : α} (h : l[j]? = some x) : (mapTo f l j)[j]? = some x := by
  unfold mapTo
  have hj := lt_of_some h
  have hl : ((l.take j).map f).length = j := by rw [List.length_map, List.length_take]; omega
  rw [List.getElem?_append_right (by omega), hl, Nat.sub_self, List.getElem?_drop, Nat.add_zero]
  exact h
theorem mapTo_step {α : Type} (f : α → α) {l : List α} {j : Nat} {x : α} (h : l[j]? = some x) : (mapTo f l j).set j (f x) = mapTo f l (j + 1) := by
  have hj := lt_of_some h
  have hl : ((l.take j).map f).length = j := by rw [List.length_map, List.length_take]; omega
  unfold mapTo
  rw [List.set_append_right _ _ (by omega), hl, Nat.sub_self, List.drop_eq_getElem_cons hj, List.set_cons_zero, take_succ h, List.map_append, List.append_assoc]
  rfl
theorem mapTo_same {α : Type} (f : α → α) {l : List α} {j : Nat} {x : α} (h : l[j]? = some x) (hf : f x = x) : mapTo f l (j + 1) = mapTo f l j := by
  rw [← mapTo_step f h, hf]
  have h2 := mapTo_get f h
  apply List.ext_getElem?
  intro k
  by_cases hk : j = k
  · subst hk
    rw [List.getElem?_set_self (lt_of_some h2), h2]
  · rw [List.getElem?_set_ne hk]
theorem bodyP_no {l : LieV} {p : Pk} (h : ¬ (p.no = l.n ∧ 0 ≤ l.m ∧ l.m < p.its.length)) : bodyP l p = p := if_neg h
set_option maxRecDepth 8000 in
set_option maxHeartbeats 4000000 in
theorem lie3_any (s : Sto) (l : LieV) (gs gl : Nat) (va vb vc : Value) (w : World) (lo hi : Nat) (h : OStW w lo hi s va vb vc) (hhi : hi ≤ w.heap.size) (hs : Blk w gs 27 #[va, vb, vc]) (hl : Blk w gl 59 (LieC l)) (hk : l.k = 3) (hlb : l.b.size ≤ maxLen) :
    Calls Tryz.prog 147 #[.pointer (some ⟨gs, 0, none⟩), .pointer (some ⟨gl, 0, none⟩)] w (Lies s (lieS s l) w lo hi gs [110]) := by
  rw [lieS_3 hk]
  obtain ⟨h1, h2, h3⟩ := h
  obtain ⟨A, a, rfl⟩ := ORow.form h1
  obtain ⟨_, ha, hx⟩ := (OPks.l h1).len_
  unfold maxLen at hx
  have c0 : w.cell? ⟨gs, 0, none⟩ = some (.slice A s.pk.length a) := hs.cell 0
  go_enter Tryz.func147, Tryz.ntmps147
  go_wp2_with fail
  go_loopw [10] (fun ii wr => ∃ j : Nat, j ≤ s.pk.length ∧ ii = .int .i64 j ∧ OPks wr lo hi (mapTo (bodyP l) s.pk j) [.slice A s.pk.length a] ∧ Chg (fun b => lo ≤ b ∧ b < hi ∧ Typed w [110] b) w wr) (fun ii _ => s.pk.length - (intOf ii).toNat)
  case atStart => exact ⟨0, Nat.zero_le _, rfl, by rw [mapTo_zero]; exact h1, Chg.refl _ _⟩
  case round =>
    obtain ⟨j, hj, rfl, ho, hcr⟩ := hrel
    have zr := hcr.size
    by_cases hlt : j < s.pk.length
    · obtain ⟨x, hxk⟩ := some_of_lt hlt
      have hxm := mapTo_get (bodyP l) hxk
      have hml := mapTo_len (bodyP l) s.pk j
      obtain ⟨g, c', e, hg1, hg2, hg3, dsg, hgb⟩ := ORow.some_ ho (by rw [hml]; omega)
      simp only [Value.slice.injEq] at e
      obtain ⟨rfl, -, rfl⟩ := e
      have HX := Lib.hid hxk
      have HXM := Lib.hid hxm
      have hstep := mapTo_step (bodyP l) hxk
      have HST := Lib.hid hstep
      clear hxk hxm hml hgb dsg hstep
      obtain ⟨m, m', es, l1, l2, l3, hel, ⟨v2, rfl, hgd, hrow⟩, hcell, hup⟩ := ORow.at_ OPk.tloc (by decide) ho HXM.out
      obtain ⟨A2, c2, rfl⟩ := ORow.form hrow
      obtain ⟨_, hi1, hi2⟩ := (OIts.l hrow).len_
      unfold maxLen at hi2
      have hc0 : wr.cell? ⟨g, j * 2, none⟩ = some (.int .i64 x.no) := hcell 0 _ rfl
      have hc1 : wr.cell? ⟨g, j * 2 + 1, none⟩ = some (.slice A2 x.its.length c2) := hcell 1 _ rfl
      have HROW := Lib.hid hrow; have HUP := Lib.hid hup
      have hlr := blk_chg hl hcr fun hx => typed_ne hl (by decide) hx.2.2
      have b1 := below_alloc wr (.cells #[.int .i64 x.no, .slice A2 x.its.length c2] 40)
      have hl2 := blk_keep hlr b1
      have cl1 : (wr.alloc (.cells #[.int .i64 x.no, .slice A2 x.its.length c2] 40)).cell? ⟨gl, 1, none⟩ = some (.int .i64 l.n) := hl2.cell 1
      have cl2 : (wr.alloc (.cells #[.int .i64 x.no, .slice A2 x.its.length c2] 40)).cell? ⟨gl, 2, none⟩ = some (.int .i64 l.m) := hl2.cell 2
      have cl3 : (wr.alloc (.cells #[.int .i64 x.no, .slice A2 x.its.length c2] 40)).cell? ⟨gl, 3, none⟩ = some (.string l.b) := hl2.cell 3
      clear hcell hrow hup hlr hl2
      by_cases e1 : x.no = l.n
      · have t1 : (x.no == l.n) = true := beq_iff_eq.2 e1
        have E1 := Lib.hid e1; clear e1
        by_cases e2 : 0 ≤ l.m
        · have t2 : decide (0 ≤ l.m) = true := decide_eq_true e2
          obtain ⟨mm, hmm⟩ := Int.eq_ofNat_of_zero_le e2
          by_cases e3 : l.m < (x.its.length : Int)
          · have t3 : decide (l.m < (x.its.length : Int)) = true := decide_eq_true e3
            have hmx : mm < x.its.length := by omega
            obtain ⟨y, hyk⟩ := some_of_lt hmx
            obtain ⟨gi, ci, ei, hgi1, hgi2, hgi3, dsi, hgib⟩ := ORow.some_ HROW.out (by omega)
            simp only [Value.slice.injEq] at ei
            obtain ⟨rfl, -, rfl⟩ := ei
            have hrow2 := OIts.tloc.below HROW.out b1 (by omega)
            obtain ⟨n1, n2, es2, -, -, -, -, ⟨rfl, hyg⟩, hcy, -⟩ := ORow.at_ (RFlat.tloc FIt) (by decide) hrow2 hyk
            have hcy1 : (wr.alloc (.cells #[.int .i64 x.no, .slice (some ⟨gi, 0, none⟩) x.its.length c2] 40)).cell? ⟨gi, mm * 2 + 1, none⟩ = some (.string y.b) := hcy 1 _ rfl
            have hfy := ORow.frozen hrow2 (mm * 2 + 1)
            have hput := ORow.put (j := 1) (u := .string l.b) (RFlat.tloc FIt) (by decide) hrow2 hyk (y := (⟨y.n, l.b⟩ : It)) (by decide) rfl (fun w' lo hi es hh => ⟨by rw [hh.1]; rfl, hh.2.1, hlb⟩)
            have hbody : bodyP l x = ⟨x.no, x.its.set mm ⟨y.n, l.b⟩⟩ := by
              unfold bodyP
              rw [if_pos ⟨E1.out, e2, e3⟩, setAt_some (x := y) (by rw [hmm]; exact hyk), hmm]
              rfl
            have hti : Typed wr [110] gi := ⟨_, List.mem_cons_self, dsi, hgib⟩
            have hch : Chg (fun b => m ≤ b ∧ b < m' ∧ Typed wr [110] b) wr ((wr.alloc (.cells #[.int .i64 x.no, .slice (some ⟨gi, 0, none⟩) x.its.length c2] 40)).setCell ⟨gi, mm * 2 + 1, none⟩ (.string l.b)) :=
              (Chg.of_below (S := fun b => m ≤ b ∧ b < m' ∧ Typed wr [110] b) b1).setCell (p := ⟨gi, mm * 2 + 1, none⟩) (.inl ⟨hgi1, hgi2, hti⟩) (.string l.b)
            have ho3 := HUP.out _ ⟨x.no, x.its.set mm ⟨y.n, l.b⟩⟩ hch ⟨.slice (some ⟨gi, 0, none⟩) x.its.length c2, rfl, hgd, hput⟩
            rw [← hbody, HST.out] at ho3
            have hc3 := hcr.trans hch fun b hb hx => ⟨by omega, by omega, typed_back hcr (T := [110]) (fun t ht => ht) (show b < hi by omega) hhi (fun hs => hs.2.2) hx.2.2⟩
            have hgis : gi < wr.heap.size := hgi3
            rw [World.setCell_alloc_past _ _ _ _ hgis] at ho3 hc3
            have HO3 := Lib.hid ho3; have HC3 := Lib.hid hc3
            have hmr : (l.m : Int) = ((mm : Nat) : Int) := hmm
            clear ho hcr ho3 hc3 hch hput hcy hbody hyk HUP HROW hrow2 b1 e2 e3 hmm
            have hmx2 : ((mm : Nat) : Int) < (x.its.length : Int) := by omega
            rw [hmr] at t2 t3 cl2
            go_wp2_with fail
            go_roundw
            case rel => exact ⟨j + 1, by omega, by go_num, HO3.out, HC3.out⟩
            case measure => simp [intOf]; omega
          · have t3 : decide (l.m < (x.its.length : Int)) = false := decide_eq_false e3
            have E3 := Lib.hid e3
            clear e2 e3 hmm
            have hsame := mapTo_same (bodyP l) HX.out (bodyP_no (fun h => E3.out h.2.2))
            have HS := Lib.hid hsame; clear hsame
            have ho2 := OPks.tloc.below ho b1 (by omega)
            have hc2 := hcr.trans (Chg.of_below (S := fun _ => False) b1) fun _ _ h => h.elim
            have HO2 := Lib.hid ho2; have HC2 := Lib.hid hc2
            clear ho hcr ho2 hc2 b1
            go_wp2_with fail
            go_roundw
            case rel => exact ⟨j + 1, by omega, by go_num, by rw [HS.out]; exact HO2.out, HC2.out⟩
            case measure => simp [intOf]; omega
        · have t2 : decide (0 ≤ l.m) = false := decide_eq_false e2
          have E2 := Lib.hid e2; clear e2
          have hsame := mapTo_same (bodyP l) HX.out (bodyP_no (fun h => E2.out h.2.1))
          have HS := Lib.hid hsame; clear hsame
          have ho2 := OPks.tloc.below ho b1 (by omega)
          have hc2 := hcr.trans (Chg.of_below (S := fun _ => False) b1) fun _ _ h => h.elim
          have HO2 := Lib.hid ho2; have HC2 := Lib.hid hc2
          clear ho hcr ho2 hc2 b1
          go_wp2_with fail
          go_roundw
          case rel => exact ⟨j + 1, by omega, by go_num, by rw [HS.out]; exact HO2.out, HC2.out⟩
          case measure => simp [intOf]; omega
      · have t1 : (x.no == l.n) = false := beq_eq_false_iff_ne.2 e1
        have E1 := Lib.hid e1; clear e1
        have hsame := mapTo_same (bodyP l) HX.out (bodyP_no (fun h => E1.out h.1))
        have HS := Lib.hid hsame; clear hsame
        have ho2 := OPks.tloc.below ho b1 (by omega)
        have hc2 := hcr.trans (Chg.of_below (S := fun _ => False) b1) fun _ _ h => h.elim
        have HO2 := Lib.hid ho2; have HC2 := Lib.hid hc2
        clear ho hcr ho2 hc2 b1
        go_wp2_with fail
        go_roundw
        case rel => exact ⟨j + 1, by omega, by go_num, by rw [HS.out]; exact HO2.out, HC2.out⟩
        case measure => simp [intOf]; omega
    · obtain rfl : j = s.pk.length := by omega
      rw [mapTo_all] at ho
      have hs1 := blk_chg hs hcr fun hx => typed_ne hs (by decide) hx.2.2
      have o2 := OSns.tloc.go (w' := wr) (lo' := lo) (hi' := hi) (fun b b1 b2 ht => hcr.block b (by omega) fun hx => typed_ne' ht (by decide) hx.2.2) (Nat.le_refl _) (Nat.le_refl _) h2
      have o3 := OHw.tloc.go (w' := wr) (lo' := lo) (hi' := hi) (fun b b1 b2 ht => hcr.block b (by omega) fun hx => typed_ne' ht (by decide) hx.2.2) (Nat.le_refl _) (Nat.le_refl _) h3
      have hch := hcr.mono (T := fun b => b = gs ∨ (lo ≤ b ∧ b < hi ∧ Typed w [110] b)) fun b _ hb => .inr hb
      have HQ := Lib.hid (And.intro ho (And.intro o2 (And.intro o3 (And.intro hch hs1))))
      clear ho o2 o3 hch hs1
      go_wp2_with fail
      go_end0
      exact ⟨rfl, _, _, _, HQ.out.2.2.2.2, ⟨HQ.out.1, HQ.out.2.1, HQ.out.2.2.1⟩, HQ.out.2.2.2.1⟩
end Go.Proofs.YtpdkgpbfmpekgaaGreatDoor




/- The closures of a lie that rolls back, of one that forks the log, and of none. -/
namespace Go.Proofs.YtpdkgpbfmpekgaaGreatDoor
open Go.RowKit

theorem RSl.drop_ {α : Type} {E : Rep α} {sz : Nat} {w : World} {lo hi : Nat} {xs : List α} {A : Option Addr} {n c k : Nat} (h : RSl E sz w lo hi xs [.slice A n c]) (hk : k ≤ xs.length) : RSl E sz w lo hi (xs.drop k) [.slice (if c = k then A else A.map fun x => x.add (k * sz)) (xs.length - k) (c - k)] := by
  obtain ⟨A', c', e0, hc, hm, hx⟩ := h
  simp only [List.cons.injEq, Value.slice.injEq, and_true] at e0
  obtain ⟨rfl, rfl, rfl⟩ := e0
  refine ⟨_, c - k, by rw [List.length_drop], by rw [List.length_drop]; omega, by omega, fun hp => ?_⟩
  rw [List.length_drop] at hp
  have hne : ¬ c = k := by omega
  have hp0 : 0 < xs.length := by omega
  obtain ⟨b, off, rfl, h1, h2, hat⟩ := hx hp0
  refine ⟨b, off + k * sz, by rw [if_neg hne]; simp only [Option.map_some, addr_plain], h1, h2, fun i x hi => ?_⟩
  rw [List.getElem?_drop] at hi
  obtain ⟨es, h3, h4, h5⟩ := hat _ _ hi
  refine ⟨es, h3, h4, fun j u hj => ?_⟩
  have := h5 j u hj
  rw [← this, Nat.add_mul]
  congr 2
  omega
theorem lie5_any (s s' : Sto) (hss : s' = s) (gs : Nat) (va vb vc : Value) (w : World) (lo hi : Nat) (h : OStW w lo hi s va vb vc) (hs : Blk w gs 27 #[va, vb, vc]) :
    Calls Tryz.prog 149 #[.pointer (some ⟨gs, 0, none⟩)] w (Lies s s' w lo hi gs []) := by
  subst hss
  go_enter Tryz.func149, Tryz.ntmps149
  go_wp2_with fail
  go_end0
  exact ⟨rfl, _, _, _, hs, h, Chg.refl _ _⟩
set_option maxRecDepth 8000 in
set_option maxHeartbeats 4000000 in
theorem lie4_any (s : Sto) (l : LieV) (gs gl : Nat) (va vb vc : Value) (w : World) (lo hi : Nat) (h : OStW w lo hi s va vb vc) (hhi : hi ≤ w.heap.size) (hs : Blk w gs 27 #[va, vb, vc]) (hl : Blk w gl 59 (LieC l)) (hk : l.k = 4) :
    Calls Tryz.prog 148 #[.pointer (some ⟨gs, 0, none⟩), .pointer (some ⟨gl, 0, none⟩)] w (Lies s (lieS s l) w lo hi gs [76]) := by
  have hh := h
  obtain ⟨h1, h2, h3⟩ := h
  obtain ⟨C, c, rfl⟩ := OHw.form h3
  obtain ⟨_, ha, hx⟩ := (OHw.l h3).len_
  unfold maxLen at hx
  have c2 : w.cell? ⟨gs, 2, none⟩ = some (.slice C s.lg.length c) := hs.cell 2
  have cl : w.cell? ⟨gl, 1, none⟩ = some (.int .i64 l.n) := hl.cell 1
  by_cases e1 : 0 ≤ l.n
  · have t1 : decide (0 ≤ l.n) = true := decide_eq_true e1
    by_cases e2 : l.n < (s.lg.length : Int)
    · have t2 : decide (l.n < (s.lg.length : Int)) = true := decide_eq_true e2
      rw [lieS_4 hk ⟨e1, e2⟩]
      obtain ⟨nn, hnn⟩ := Int.eq_ofNat_of_zero_le e1
      obtain ⟨y, hyk⟩ := some_of_lt (l := s.lg) (k := nn) (by omega)
      have hset : setAt s.lg l.n.toNat forkH = s.lg.set nn (forkH y) := by
        have : l.n.toNat = nn := by omega
        rw [this, setAt_some hyk]
      rw [hset]
      obtain ⟨g, c', e, hg1, hg2, dsg, hgb⟩ := OHw.some_ h3 (by omega)
      simp only [Value.slice.injEq] at e
      obtain ⟨rfl, -, rfl⟩ := e
      obtain ⟨hyg, hy0, hy1⟩ := OHw.at_ h3 hyk
      have hgood : FHd.good (forkH y) := by
        refine ⟨?_, hyg.2⟩
        show In64 (wrap64 (3 - y.b))
        unfold In64 wrap64
        omega
      have HP : ∀ w', Below w.heap.size w w' → OHw (w'.setCell ⟨g, nn * 2, none⟩ (.int .i64 (wrap64 (3 - y.b)))) lo hi (s.lg.set nn (forkH y)) [.slice (some ⟨g, 0, none⟩) s.lg.length c] := fun w' hb =>
        OHw.put (j := 0) (OHw.tloc.below h3 hb hhi) hyk (by decide) hgood rfl
      have HPH := Lib.hid HP
      have HY := Lib.hid hyk
      clear HP hyk e1 hset
      rw [hnn] at t1 t2 cl e2
      clear hnn
      go_enter Tryz.func148, Tryz.ntmps148
      go_wp2_with fail
      have past0 := past_cell c2
      have past1 := past_cell cl
      refine region_pastT 13 [0, 1, 2, 3, 4, 5, 6, 7, 8, 9, 10, 11, 12] [] (by kernel_rfl) (by kernel_rfl) (by kernel_rfl) ?_
      simp only [pick, List.map, List.getD_cons_zero, List.getD_cons_succ]
      repeat (go_big_quiet_step (fail))
      refine wpQuiet_nil ?_
      clear past0 past1
      apply Exists.intro
      refine past_end ?_
      intro wq hq xx hxx hF
      dsimp only [allF] at hF
      try rw [hxx] at hF
      clear hxx xx
      simp only [List.drop]
      clear hF
      have c2' := cell_keep hq c2
      have cl' := cell_keep hq cl
      have hy0' := cell_keep hq hy0
      have e2' : ¬ (((nn : Nat) : Int) < 0) := by omega
      go_wp2_with fail
      have past0 := past_cell c2'
      have past1 := past_cell cl'
      have past2 := past_cell hy0'
      refine region_pastT 16 [0, 1, 2, 3, 4, 5, 6, 7, 8, 9, 10, 11, 12, 13, 14, 15] [] (by kernel_rfl) (by kernel_rfl) (by kernel_rfl) ?_
      simp only [pick, List.map, List.getD_cons_zero, List.getD_cons_succ]
      repeat (go_big_quiet_step (fail))
      refine wpQuiet_nil ?_
      clear past0 past1 past2
      apply Exists.intro
      refine past_end ?_
      intro wz hz xx hxx hF
      dsimp only [allF] at hF
      try rw [hxx] at hF
      clear hxx xx
      simp only [List.drop]
      clear hF
      have hb := below_below hq hz
      have hy2 := cell_keep hz hy0'
      have hgz := blk_keep hgb hb
      have hfz := hgz.frozen (nn * 2)
      have ho3 := HPH.out wz hb
      have hso := blk_ne (blk_keep hs hb) (p := ⟨g, nn * 2, none⟩) (.int .i64 (wrap64 (3 - y.b))) (fun e => by have e' : gs = g := e; subst e'; have := blk_type hs hgb; revert this; decide)
      have hkT : ∀ {T : List TypeId} (b : Nat), 76 ∉ T → Typed wz T b → (wz.setCell ⟨g, nn * 2, none⟩ (.int .i64 (wrap64 (3 - y.b)))).heap[b]? = wz.heap[b]? := fun b hT ht => Below.heap_setCell _ _ _ _ (by rintro rfl; exact typed_ne hgz hT ht)
      have ho1 := OPks.tloc.go (w' := wz.setCell ⟨g, nn * 2, none⟩ (.int .i64 (wrap64 (3 - y.b)))) (lo' := lo) (hi' := hi) (fun b _ _ ht => hkT b (by decide) ht) (Nat.le_refl _) (Nat.le_refl _) (OPks.tloc.below h1 hb hhi)
      have ho2 := OSns.tloc.go (w' := wz.setCell ⟨g, nn * 2, none⟩ (.int .i64 (wrap64 (3 - y.b)))) (lo' := lo) (hi' := hi) (fun b _ _ ht => hkT b (by decide) ht) (Nat.le_refl _) (Nat.le_refl _) (OSns.tloc.below h2 hb hhi)
      have hch : Chg (fun b => b = gs ∨ (lo ≤ b ∧ b < hi ∧ Typed w [76] b)) w (wz.setCell ⟨g, nn * 2, none⟩ (.int .i64 (wrap64 (3 - y.b)))) := (Chg.of_below hb).setCell (p := ⟨g, nn * 2, none⟩) (.inl (.inr ⟨hg1, hg2, _, List.mem_cons_self, dsg, hgb⟩)) _
      have HQ := Lib.hid (And.intro ho1 (And.intro ho2 (And.intro ho3 (And.intro hch hso))))
      clear ho1 ho2 ho3 hch hso hkT
      go_wp2_with fail
      go_end0
      exact ⟨rfl, _, _, _, HQ.out.2.2.2.2, ⟨HQ.out.1, HQ.out.2.1, HQ.out.2.2.1⟩, HQ.out.2.2.2.1⟩
    · have t2 : decide (l.n < (s.lg.length : Int)) = false := decide_eq_false e2
      rw [lieS_4n hk (fun h => e2 h.2)]
      clear e1 e2
      go_enter Tryz.func148, Tryz.ntmps148
      go_wp2_with fail
      have past0 := past_cell c2
      have past1 := past_cell cl
      refine region_pastT 13 [0, 1, 2, 3, 4, 5, 6, 7, 8, 9, 10, 11, 12] [] (by kernel_rfl) (by kernel_rfl) (by kernel_rfl) ?_
      simp only [pick, List.map, List.getD_cons_zero, List.getD_cons_succ]
      repeat (go_big_quiet_step (fail))
      refine wpQuiet_nil ?_
      clear past0 past1
      apply Exists.intro
      refine past_end ?_
      intro wq hq xx hxx hF
      dsimp only [allF] at hF
      try rw [hxx] at hF
      clear hxx xx
      simp only [List.drop]
      clear hF
      go_wp2_with fail
      go_end0
      exact ⟨rfl, _, _, _, blk_keep hs hq, hh.below hq hhi, Chg.of_below hq⟩
  · have t1 : decide (0 ≤ l.n) = false := decide_eq_false e1
    rw [lieS_4n hk (fun h => e1 h.1)]
    clear e1
    go_enter Tryz.func148, Tryz.ntmps148
    go_wp2_with fail
    have past0 := past_cell c2
    have past1 := past_cell cl
    refine region_pastT 13 [0, 1, 2, 3, 4, 5, 6, 7, 8, 9, 10, 11, 12] [] (by kernel_rfl) (by kernel_rfl) (by kernel_rfl) ?_
    simp only [pick, List.map, List.getD_cons_zero, List.getD_cons_succ]
    repeat (go_big_quiet_step (fail))
    refine wpQuiet_nil ?_
    clear past0 past1
    apply Exists.intro
    refine past_end ?_
    intro wq hq xx hxx hF
    dsimp only [allF] at hF
    try rw [hxx] at hF
    clear hxx xx
    simp only [List.drop]
    clear hF
    go_wp2_with fail
    go_end0
    exact ⟨rfl, _, _, _, blk_keep hs hq, hh.below hq hhi, Chg.of_below hq⟩
end Go.Proofs.YtpdkgpbfmpekgaaGreatDoor




/- The closure of a lie that rolls back. -/
namespace Go.Proofs.YtpdkgpbfmpekgaaGreatDoor
open Go.RowKit

def AsksH (F : Nat) (caps : Array Value) (p : Int → Bool) (Q : World → Prop) : Prop := ∀ (b s : Int) (w' : World), Q w' → Calls Tryz.prog F (#[.agg #[.int .i64 b, .int .i64 s]] ++ caps) w' fun e w'' => e = .returned (.bool (p s)) ∧ Below w'.heap.size w' w''
set_option maxRecDepth 100000 in
theorem indexFunc_hd (F : Nat) (caps : Array Value) (p : Int → Bool) (xs : List Hd) (v : Value) (w : World) (lo hi : Nat) (h : RHdsL w lo hi xs [v]) (hhi : hi ≤ w.heap.size) (hF : IsFn F) (hf : AsksH F caps p fun w' => Below w.heap.size w w') :
    Calls Tryz.prog 166 #[v, .func (.func F) #[] caps] w fun e w' => IdxAt xs (fun x => p x.s) e ∧ Below w.heap.size w w' := by
  obtain ⟨A, c, rfl⟩ := RSl.form h
  obtain ⟨_, hc, hx⟩ := h.len_
  unfold maxLen at hx
  have HF := Lib.hid hf; clear hf
  go_enter Tryz.func166, Tryz.ntmps166
  go_wp2_with fail
  go_loopw [8] (fun ii wr => ∃ k : Nat, k ≤ xs.length ∧ ii = .int .i64 k ∧ (∀ y ∈ xs.take k, p y.s = false) ∧ Below w.heap.size w wr) (fun ii _ => xs.length - (intOf ii).toNat)
  case atStart => exact ⟨0, Nat.zero_le _, rfl, by simp, Below.refl _ _⟩
  case round =>
    obtain ⟨k, hk, rfl, hn, hbr⟩ := hrel
    have HN := Lib.hid hn; clear hn
    by_cases hlt : k < xs.length
    · obtain ⟨x, hxk⟩ := some_of_lt hlt
      obtain ⟨b, off, es, e0, _, hbb, _, ⟨rfl, hgd⟩, hcc⟩ := (RHdsL.loc.below h hbr hhi).at_ hxk
      subst e0
      have hc0 : wr.cell? ⟨b, off + k * 2, none⟩ = some (.int .i64 x.b) := by simpa using hcc 0 _ rfl
      have hc1 : wr.cell? ⟨b, off + k * 2 + 1, none⟩ = some (.int .i64 x.s) := by simpa using hcc 1 _ rfl
      have HX := Lib.hid hxk; clear hxk hcc
      have hcall := hF (#[.agg #[.int .i64 x.b, .int .i64 x.s]] ++ caps) wr
      cases hp : p x.s
      · have HP := Lib.hid hp; clear hp
        go_wp2_with fail
        refine (HF.out x.b x.s wr hbr).mono ?_
        rintro e w' ⟨rfl, b1⟩
        rw [HP.out]
        clear hcall hc0 hc1
        go_wp2_with fail
        go_roundw
        case rel =>
          refine ⟨k + 1, by omega, by go_num, fun y hy => ?_, below_below hbr b1⟩
          rw [take_succ HX.out, List.mem_append] at hy
          rcases hy with hy | hy
          · exact HN.out y hy
          · rw [List.mem_singleton.1 hy]; exact HP.out
        case measure => simp [intOf]; omega
      · have HP := Lib.hid hp; clear hp
        go_wp2_with fail
        refine (HF.out x.b x.s wr hbr).mono ?_
        rintro e w' ⟨rfl, b1⟩
        rw [HP.out]
        clear hcall hc0 hc1
        go_wp2_with fail
        go_ret
        exact ⟨.inr ⟨k, x, rfl, HX.out, HP.out, HN.out⟩, below_below hbr b1⟩
    · obtain rfl : k = xs.length := by omega
      rw [List.take_length] at HN
      go_wp2_with fail
      go_ret
      exact ⟨.inl ⟨rfl, HN.out⟩, hbr⟩
theorem containsFunc_hd (F : Nat) (caps : Array Value) (p : Int → Bool) (xs : List Hd) (v : Value) (w : World) (lo hi : Nat) (h : RHdsL w lo hi xs [v]) (hhi : hi ≤ w.heap.size) (hF : IsFn F) (hf : AsksH F caps p fun w' => Below w.heap.size w w') :
    Calls Tryz.prog 114 #[v, .func (.func F) #[] caps] w fun e w' => e = .returned (.bool (xs.any fun x => p x.s)) ∧ Below w.heap.size w w' := by
  obtain ⟨A, c, rfl⟩ := RSl.form h
  have HF := Lib.hid hf; clear hf
  go_enter Tryz.func114, Tryz.ntmps114
  go_wp2_with fail
  refine (indexFunc_hd F caps p xs _ w lo hi h hhi hF HF.out).mono ?_
  rintro e w1 ⟨hix, b1⟩
  rcases hix with ⟨rfl, hall⟩ | ⟨i, x, rfl, hi0, hp, -⟩
  · have hq : (xs.any fun x => p x.s) = false := by rw [List.any_eq_false]; intro y hy; have h2 : p y.s = false := hall y hy; rw [h2]; simp
    have HQ := Lib.hid hq
    clear hall hq
    go_wp2_with fail
    go_ret
    exact ⟨ret_bool HQ.out.symm, b1⟩
  · have hq : (xs.any fun x => p x.s) = true := by rw [List.any_eq_true]; exact ⟨x, List.mem_of_getElem? hi0, hp⟩
    have HQ := Lib.hid hq
    clear hi0 hp hq
    go_wp2_with fail
    go_ret
    exact ⟨ret_bool HQ.out.symm, b1⟩
set_option maxRecDepth 8000 in
theorem lie211 (no : Int) (u : Value) (gx : Nat) (Q : World → Prop) (hQ : ∀ w', Q w' → Blk w' gx 35 #[.int .i64 no, u]) : AsksH 146 #[.pointer (some ⟨gx, 0, none⟩)] (fun s => s == no) Q := by
  intro b s w' hq
  have k := hQ w' hq
  have ck : w'.cell? ⟨gx, 0, none⟩ = some (.int .i64 no) := k.cell 0
  show Calls _ _ #[.agg #[.int .i64 b, .int .i64 s], .pointer (some ⟨gx, 0, none⟩)] _ _
  have hb := below_alloc w' (.cells #[.int .i64 b, .int .i64 s] 76)
  have ck2 := cell_keep hb ck
  go_enter Tryz.func146, Tryz.ntmps146
  go_wp2_with fail
  go_ret
  exact ⟨rfl, hb⟩
theorem isFn211 : IsFn 146 := isFn Tryz.func146 (by kernel_rfl) rfl
set_option maxRecDepth 8000 in
theorem lie21 (ls : List Hd) (v : Value) (gv : Nat) (Q : World → Prop) (hQ : ∀ w', Q w' → Blk w' gv 25 #[v] ∧ ∃ lo hi, hi ≤ w'.heap.size ∧ RHdsL w' lo hi ls [v]) : Asks 145 #[.pointer (some ⟨gv, 0, none⟩)] (fun no => ls.any fun h => h.s == no) Q := by
  intro n A m c w' hq
  obtain ⟨k, lo, hi, hhi, hr⟩ := hQ w' hq
  obtain ⟨B, d, rfl⟩ := RSl.form hr
  have ck : w'.cell? ⟨gv, 0, none⟩ = some (.slice B ls.length d) := k.cell 0
  show Calls _ _ #[.agg #[.int .i64 n, .slice A m c], .pointer (some ⟨gv, 0, none⟩)] _ _
  have hb := below_alloc w' (.cells #[.int .i64 n, .slice A m c] 35)
  have hr2 := RHdsL.loc.below hr hb hhi
  have kx := Blk.new w' 35 #[.int .i64 n, .slice A m c]
  have hc2 := cell_keep hb ck
  go_enter Tryz.func145, Tryz.ntmps145
  go_wp2_with fail
  refine (containsFunc_hd 146 _ (fun s => s == n) ls _ _ lo hi hr2 (Nat.le_trans hhi hb.size) isFn211 (lie211 n (.slice A m c) w'.heap.size _ fun w'' hq => blk_keep kx hq)).mono ?_
  rintro e w1 ⟨rfl, b1⟩
  go_wp2_with fail
  go_ret
  exact ⟨rfl, below_below hb b1⟩
theorem isFn21 : IsFn 145 := isFn Tryz.func145 (by kernel_rfl) rfl
set_option maxRecDepth 8000 in
set_option maxHeartbeats 4000000 in
theorem lie2_any (s : Sto) (l : LieV) (gs gl : Nat) (va vb vc : Value) (w : World) (lo hi : Nat) (h : OStW w lo hi s va vb vc) (hhi : hi ≤ w.heap.size) (hs : Blk w gs 27 #[va, vb, vc]) (hl : Blk w gl 59 (LieC l)) (hk : l.k = 2) :
    Calls Tryz.prog 143 #[.pointer (some ⟨gs, 0, none⟩), .pointer (some ⟨gl, 0, none⟩)] w (Lies s (lieS s l) w lo hi gs [35]) := by
  have hh := h
  obtain ⟨h1, h2, h3⟩ := h
  obtain ⟨C, c, rfl⟩ := OHw.form h3
  obtain ⟨B, b, rfl⟩ := ORow.form h2
  obtain ⟨_, ha, hx⟩ := (OHw.l h3).len_
  unfold maxLen at hx
  have c2 : w.cell? ⟨gs, 2, none⟩ = some (.slice C s.lg.length c) := hs.cell 2
  have cl : w.cell? ⟨gl, 1, none⟩ = some (.int .i64 l.n) := hl.cell 1
  by_cases e1 : l.n < 0
  · have t1 : decide (l.n < 0) = true := decide_eq_true e1
    rw [lieS_2n hk (fun h => by omega)]
    clear e1
    go_enter Tryz.func143, Tryz.ntmps143
    go_wp2_with fail
    have past0 := past_cell c2
    have past1 := past_cell cl
    refine region_pastT 13 [0, 1, 2, 3, 4, 5, 6, 7, 8, 9, 10, 11, 12] [] (by kernel_rfl) (by kernel_rfl) (by kernel_rfl) ?_
    simp only [pick, List.map, List.getD_cons_zero, List.getD_cons_succ]
    repeat (go_big_quiet_step (fail))
    refine wpQuiet_nil ?_
    clear past0 past1
    apply Exists.intro
    refine past_end ?_
    intro wq hq xx hxx hF
    dsimp only [allF] at hF
    try rw [hxx] at hF
    clear hxx xx
    simp only [List.drop]
    clear hF
    go_wp2_with fail
    go_end0
    exact ⟨rfl, _, _, _, blk_keep hs hq, hh.below hq hhi, Chg.of_below hq⟩
  · have t1 : decide (l.n < 0) = false := decide_eq_false e1
    by_cases e2 : (s.lg.length : Int) < l.n
    · have t2 : decide ((s.lg.length : Int) < l.n) = true := decide_eq_true e2
      rw [lieS_2n hk (fun h => by omega)]
      clear e1 e2
      go_enter Tryz.func143, Tryz.ntmps143
      go_wp2_with fail
      have past0 := past_cell c2
      have past1 := past_cell cl
      refine region_pastT 13 [0, 1, 2, 3, 4, 5, 6, 7, 8, 9, 10, 11, 12] [] (by kernel_rfl) (by kernel_rfl) (by kernel_rfl) ?_
      simp only [pick, List.map, List.getD_cons_zero, List.getD_cons_succ]
      repeat (go_big_quiet_step (fail))
      refine wpQuiet_nil ?_
      clear past0 past1
      apply Exists.intro
      refine past_end ?_
      intro wq hq xx hxx hF
      dsimp only [allF] at hF
      try rw [hxx] at hF
      clear hxx xx
      simp only [List.drop]
      clear hF
      go_wp2_with fail
      go_end0
      exact ⟨rfl, _, _, _, blk_keep hs hq, hh.below hq hhi, Chg.of_below hq⟩
    · have t2 : decide ((s.lg.length : Int) < l.n) = false := decide_eq_false e2
      rw [lieS_2 hk ⟨by omega, by omega⟩]
      obtain ⟨nn, hnn⟩ := Int.eq_ofNat_of_zero_le (show 0 ≤ l.n by omega)
      have hnt : l.n.toNat = nn := by omega
      have hnl : nn ≤ s.lg.length := by omega
      rw [hnt]
      rw [hnn] at t1 t2 cl
      have hn0 := hnn
      clear e1 e2 hnn hnt
      go_enter Tryz.func143, Tryz.ntmps143
      go_wp2_with fail
      have past0 := past_cell c2
      have past1 := past_cell cl
      refine region_pastT 13 [0, 1, 2, 3, 4, 5, 6, 7, 8, 9, 10, 11, 12] [] (by kernel_rfl) (by kernel_rfl) (by kernel_rfl) ?_
      simp only [pick, List.map, List.getD_cons_zero, List.getD_cons_succ]
      repeat (go_big_quiet_step (fail))
      refine wpQuiet_nil ?_
      clear past0 past1
      apply Exists.intro
      refine past_end ?_
      intro wq hq xx hxx hF
      dsimp only [allF] at hF
      try rw [hxx] at hF
      clear hxx xx
      simp only [List.drop]
      clear hF
      have c2' := cell_keep hq c2
      have cl' := cell_keep hq cl
      have g1 : ¬ (((nn : Nat) : Int) < 0) := by omega
      have g2 : ((nn : Nat) : Int) ≤ (s.lg.length : Int) := by omega
      have g3 : ((nn : Nat) : Int) ≤ (c : Int) := by omega
      go_wp2_with fail
      have past0 := past_cell c2'
      have past1 := past_cell cl'
      refine region_pastT 8 [0, 1, 2, 3, 4, 5, 6] [7] (by kernel_rfl) (by kernel_rfl) (by kernel_rfl) ?_
      simp only [pick, List.map, List.getD_cons_zero, List.getD_cons_succ]
      repeat (go_big_quiet_step (fail))
      refine wpQuiet_nil ?_
      clear past0 past1
      have hdr : ∀ w', OHw w' lo hi s.lg [.slice C s.lg.length c] → RHdsL w' lo hi (s.lg.drop nn) [.slice (if c = nn then C else Option.map (fun x => x.add (nn * 2)) C) (s.lg.length - nn) (c - nn)] := fun w' ho => RSl.drop_ (OHw.l ho) hnl
      generalize (if c = nn then C else Option.map (fun x => x.add (nn * 2)) C) = AD at *
      apply Exists.intro
      apply past_any (fun v w' => ∃ g, v = .pointer (some ⟨g, 0, none⟩) ∧ wq.heap.size ≤ g ∧ Blk w' g 25 #[.slice none 0 0])
      · rfl
      · exact fun v x y ⟨g, e, hg, hk⟩ hle => ⟨g, e, hg, blk_keep hk hle⟩
      · intro x hF Qx hQ'
        have hQ := Lib.hid hQ'; clear hQ' hF
        go_wp2_with fail
        exact hQ.out _ _ (below_alloc _ _) ⟨_, rfl, x.ok.size, Blk.new _ _ _⟩
      intro u3
      simp only [Act.put, List.setIfInBounds_toArray, List.set_cons_zero, List.set_cons_succ]
      refine past_end ?_
      intro wz hz xx hxx hF
      dsimp only [allF] at hF
      try rw [hxx] at hF
      clear hxx xx
      obtain ⟨⟨gv, rfl, hgv, kv⟩, -⟩ := hF
      simp only [List.drop]
      have zq := hq.size
      have zz := hz.size
      have hbz := below_below hq hz
      have kv2 := kv.set_ 0 (.slice AD (s.lg.length - nn) (c - nn))
      have ckv : wz.cell? ⟨gv, 0, none⟩ = some (.slice none 0 0) := kv.cell 0
      have fkv := kv.frozen 0
      have hb3 := hbz.setCell (p := ⟨gv, 0, none⟩) (by dsimp only; omega) (.slice AD (s.lg.length - nn) (c - nn))
      have hkv3 : Blk (wz.setCell ⟨gv, 0, none⟩ (.slice AD (s.lg.length - nn) (c - nn))) gv 25 #[.slice AD (s.lg.length - nn) (c - nn)] := by simpa using kv2
      have hs3 := blk_keep hs hb3
      have cs3 : (wz.setCell ⟨gv, 0, none⟩ (.slice AD (s.lg.length - nn) (c - nn))).cell? ⟨gs, 1, none⟩ = some (.slice B s.sn.length b) := hs3.cell 1
      clear kv kv2 c2 cl c2' cl' g1
      go_wp2_with fail
      generalize wz.setCell ⟨gv, 0, none⟩ (.slice AD (s.lg.length - nn) (c - nn)) = w3 at *
      have z3 := hb3.size
      have p1 := OPks.tloc.below h1 hb3 hhi
      have p2 := OSns.tloc.below h2 hb3 hhi
      have p3 := OHw.tloc.below h3 hb3 hhi
      have hl3 := blk_keep hl hb3
      have hlen : (s.lg.drop nn).length = s.lg.length - nn := List.length_drop
      refine (deleteFunc_sn 145 _ (fun no => (s.lg.drop nn).any fun h => h.s == no) s.sn _ w3 lo hi p2 (by omega) isFn21 (lie21 (s.lg.drop nn) (.slice AD (s.lg.length - nn) (c - nn)) gv _ fun w' hq => ⟨blk_chg hkv3 hq fun hs => typed_ne hkv3 (by decide) hs.2.2, lo, hi, by have := hq.size; omega, hdr w' (OHw.tloc.go (fun b b1 b2 ht => hq.block b (by omega) fun hx => typed_ne' ht (by decide) hx.2.2) (Nat.le_refl _) (Nat.le_refl _) p3)⟩)).mono ?_
      rintro e w4 ⟨v4, rfl, o4, c4⟩
      obtain ⟨B4, b4, rfl⟩ := ORow.form o4
      have z4 := c4.size
      have hs4 := blk_chg hs3 c4 fun hx => typed_ne hs3 (by decide) hx.2.2
      have hl4 := blk_chg hl3 c4 fun hx => typed_ne hl3 (by decide) hx.2.2
      have q1 := OPks.tloc.go (w' := w4) (lo' := lo) (hi' := hi) (fun b b1 b2 ht => c4.block b (by omega) fun hx => typed_ne' ht (by decide) hx.2.2) (Nat.le_refl _) (Nat.le_refl _) p1
      have q3 := OHw.tloc.go (w' := w4) (lo' := lo) (hi' := hi) (fun b b1 b2 ht => c4.block b (by omega) fun hx => typed_ne' ht (by decide) hx.2.2) (Nat.le_refl _) (Nat.le_refl _) p3
      have cs4 : w4.cell? ⟨gs, 1, none⟩ = some (.slice B s.sn.length b) := hs4.cell 1
      have fs4 := hs4.frozen 1
      obtain ⟨vv, hvv⟩ : ∃ vv, vv = Value.slice B4 (s.sn.filter fun x => !((s.lg.drop nn).any fun h => h.s == x.no)).length b4 := ⟨_, rfl⟩
      rw [← hvv] at o4
      rw [← hvv]
      have hvs : ∃ A n c, vv = .slice A n c := ⟨_, _, _, hvv⟩
      clear hvv
      obtain ⟨A5, n5, c5, rfl⟩ := hvs
      have hs5 := hs4.set_ 1 (.slice A5 n5 c5)
      simp only [List.setIfInBounds_toArray, List.set_cons_zero, List.set_cons_succ] at hs5
      have hgl : gl ≠ gs := by rintro rfl; exact absurd (blk_type hl4 hs4) (by decide)
      have hl5 := blk_ne hl4 (p := ⟨gs, 1, none⟩) (.slice A5 n5 c5) hgl
      have hkT : ∀ (w' : World) (i : Nat) (u : Value) {cs : Array Value} {T : List TypeId}, Blk w' gs 27 cs → ∀ (b : Nat), 27 ∉ T → Typed w' T b → (w'.setCell ⟨gs, i, none⟩ u).heap[b]? = w'.heap[b]? := fun w' i u cs T hk b hT ht => Below.heap_setCell _ _ _ _ (by rintro rfl; exact typed_ne hk hT ht)
      have r1 := OPks.tloc.go (w' := w4.setCell ⟨gs, 1, none⟩ (.slice A5 n5 c5)) (lo' := lo) (hi' := hi) (fun b _ _ ht => hkT _ 1 _ hs4 b (by decide) ht) (Nat.le_refl _) (Nat.le_refl _) q1
      have r2 := OSns.tloc.go (w' := w4.setCell ⟨gs, 1, none⟩ (.slice A5 n5 c5)) (lo' := lo) (hi' := hi) (fun b _ _ ht => hkT _ 1 _ hs4 b (by decide) ht) (Nat.le_refl _) (Nat.le_refl _) o4
      have r3 := OHw.tloc.go (w' := w4.setCell ⟨gs, 1, none⟩ (.slice A5 n5 c5)) (lo' := lo) (hi' := hi) (fun b _ _ ht => hkT _ 1 _ hs4 b (by decide) ht) (Nat.le_refl _) (Nat.le_refl _) q3
      have hch5 : Chg (fun b => b = gs ∨ (lo ≤ b ∧ b < hi ∧ Typed w [35] b)) w (w4.setCell ⟨gs, 1, none⟩ (.slice A5 n5 c5)) :=
        ((Chg.of_below (S := fun b => b = gs ∨ (lo ≤ b ∧ b < hi ∧ Typed w [35] b)) hb3).trans c4 fun b hb hx => .inr ⟨hx.1, hx.2.1, typed_back (Chg.of_below (S := fun _ => False) hb3) (T := [35]) (fun t ht => ht) hx.2.1 hhi (fun h => h.elim) hx.2.2⟩).setCell (p := ⟨gs, 1, none⟩) (.inl (.inl rfl)) _
      have HC5 := Lib.hid hch5; have R1 := Lib.hid r1; have R2 := Lib.hid r2; have R3 := Lib.hid r3
      have HS5 := Lib.hid hs5; have HL5 := Lib.hid hl5
      clear hch5 r1 r2 r3 q1 q3 o4 p1 p2 p3 hs5 hl5 hs4 hl4 hs3 hl3 cs3 c4 hb3 hdr hkv3
      go_wp2_with fail
      generalize w4.setCell ⟨gs, 1, none⟩ (.slice A5 n5 c5) = w5 at *
      have c2'' : w5.cell? ⟨gs, 2, none⟩ = some (.slice C s.lg.length c) := HS5.out.cell 2
      have cl'' : w5.cell? ⟨gl, 1, none⟩ = some (.int .i64 ((nn : Nat) : Int)) := by rw [← hn0]; exact HL5.out.cell 1
      have g1 : ¬ (((nn : Nat) : Int) < 0) := by omega
      have past0 := past_cell c2''
      have past1 := past_cell cl''
      refine region_pastT 10 [0, 1, 2, 3, 4, 5, 6, 7, 8, 9] [] (by kernel_rfl) (by kernel_rfl) (by kernel_rfl) ?_
      simp only [pick, List.map, List.getD_cons_zero, List.getD_cons_succ]
      repeat (go_big_quiet_step (fail))
      refine wpQuiet_nil ?_
      clear past0 past1
      apply Exists.intro
      refine past_end ?_
      intro wy hy xx hxx hF
      dsimp only [allF] at hF
      try rw [hxx] at hF
      clear hxx xx
      simp only [List.drop]
      clear hF
      have zy := hy.size
      have z5 := HC5.out.size
      have hs6 := blk_keep HS5.out hy
      have cs6 : wy.cell? ⟨gs, 2, none⟩ = some (.slice C s.lg.length c) := hs6.cell 2
      have fs6 := hs6.frozen 2
      have hs7 := hs6.set_ 2 (.slice C nn nn)
      simp only [List.setIfInBounds_toArray, List.set_cons_zero, List.set_cons_succ] at hs7
      have t1' := OPks.tloc.go (w' := wy.setCell ⟨gs, 2, none⟩ (.slice C nn nn)) (lo' := lo) (hi' := hi) (fun b _ _ ht => hkT _ 2 _ hs6 b (by decide) ht) (Nat.le_refl _) (Nat.le_refl _) (OPks.tloc.below R1.out hy (by omega))
      have t2' := OSns.tloc.go (w' := wy.setCell ⟨gs, 2, none⟩ (.slice C nn nn)) (lo' := lo) (hi' := hi) (fun b _ _ ht => hkT _ 2 _ hs6 b (by decide) ht) (Nat.le_refl _) (Nat.le_refl _) (OSns.tloc.below R2.out hy (by omega))
      have t3' := OHw.tloc.go (w' := wy.setCell ⟨gs, 2, none⟩ (.slice C nn nn)) (lo' := lo) (hi' := hi) (fun b _ _ ht => hkT _ 2 _ hs6 b (by decide) ht) (Nat.le_refl _) (Nat.le_refl _) (OHw.take_ (OHw.tloc.below R3.out hy (by omega)) hnl)
      have hch7 := (HC5.out.trans (Chg.of_below (S := fun _ => False) hy) fun _ _ h => h.elim).setCell (p := ⟨gs, 2, none⟩) (.inl (.inl rfl)) (.slice C nn nn)
      have HQ := Lib.hid (And.intro t1' (And.intro t2' (And.intro t3' (And.intro hch7 hs7))))
      clear t1' t2' t3' hch7 hs7 hkT
      go_wp2_with fail
      go_end0
      exact ⟨rfl, _, _, _, HQ.out.2.2.2.2, ⟨HQ.out.1, HQ.out.2.1, HQ.out.2.2.1⟩, HQ.out.2.2.2.1⟩
end Go.Proofs.YtpdkgpbfmpekgaaGreatDoor




/- What a house shows, by the program. -/
namespace Go.Proofs.YtpdkgpbfmpekgaaGreatDoor
open Go.RowKit

set_option maxRecDepth 8000 in
theorem deceit1_any (l : LieV) (w : World) (hk : l.k = 1) : Calls Tryz.prog 86 #[.agg (LieC l)] w fun e w' => ∃ g, e = .returned (.func (.func 140) #[] #[.pointer (some ⟨g, 0, none⟩)]) ∧ Blk w' g 59 (LieC l) ∧ w.heap.size ≤ g ∧ Below w.heap.size w w' := by
  have hb := below_alloc w (.cells (LieC l) 59)
  have hk0 := Blk.new w 59 (LieC l)
  have HB := Lib.hid hb; have HK := Lib.hid hk0
  clear hb hk0
  obtain ⟨k, n, m, b⟩ := l
  dsimp only at hk
  subst hk
  go_enter Tryz.func86, Tryz.ntmps86
  go_wp2_with fail
  go_ret
  exact ⟨_, rfl, HK.out, Nat.le_refl _, HB.out⟩
set_option maxRecDepth 8000 in
theorem deceit2_any (l : LieV) (w : World) (hk : l.k = 2) : Calls Tryz.prog 86 #[.agg (LieC l)] w fun e w' => ∃ g, e = .returned (.func (.func 143) #[] #[.pointer (some ⟨g, 0, none⟩)]) ∧ Blk w' g 59 (LieC l) ∧ w.heap.size ≤ g ∧ Below w.heap.size w w' := by
  have hb := below_alloc w (.cells (LieC l) 59)
  have hk0 := Blk.new w 59 (LieC l)
  have HB := Lib.hid hb; have HK := Lib.hid hk0
  clear hb hk0
  obtain ⟨k, n, m, b⟩ := l
  dsimp only at hk
  subst hk
  go_enter Tryz.func86, Tryz.ntmps86
  go_wp2_with fail
  go_ret
  exact ⟨_, rfl, HK.out, Nat.le_refl _, HB.out⟩
set_option maxRecDepth 8000 in
theorem deceit3_any (l : LieV) (w : World) (hk : l.k = 3) : Calls Tryz.prog 86 #[.agg (LieC l)] w fun e w' => ∃ g, e = .returned (.func (.func 147) #[] #[.pointer (some ⟨g, 0, none⟩)]) ∧ Blk w' g 59 (LieC l) ∧ w.heap.size ≤ g ∧ Below w.heap.size w w' := by
  have hb := below_alloc w (.cells (LieC l) 59)
  have hk0 := Blk.new w 59 (LieC l)
  have HB := Lib.hid hb; have HK := Lib.hid hk0
  clear hb hk0
  obtain ⟨k, n, m, b⟩ := l
  dsimp only at hk
  subst hk
  go_enter Tryz.func86, Tryz.ntmps86
  go_wp2_with fail
  go_ret
  exact ⟨_, rfl, HK.out, Nat.le_refl _, HB.out⟩
set_option maxRecDepth 8000 in
theorem deceit4_any (l : LieV) (w : World) (hk : l.k = 4) : Calls Tryz.prog 86 #[.agg (LieC l)] w fun e w' => ∃ g, e = .returned (.func (.func 148) #[] #[.pointer (some ⟨g, 0, none⟩)]) ∧ Blk w' g 59 (LieC l) ∧ w.heap.size ≤ g ∧ Below w.heap.size w w' := by
  have hb := below_alloc w (.cells (LieC l) 59)
  have hk0 := Blk.new w 59 (LieC l)
  have HB := Lib.hid hb; have HK := Lib.hid hk0
  clear hb hk0
  obtain ⟨k, n, m, b⟩ := l
  dsimp only at hk
  subst hk
  go_enter Tryz.func86, Tryz.ntmps86
  go_wp2_with fail
  go_ret
  exact ⟨_, rfl, HK.out, Nat.le_refl _, HB.out⟩
set_option maxRecDepth 8000 in
theorem deceit5_any (l : LieV) (w : World) (h1 : ¬ l.k = 1) (h2 : ¬ l.k = 2) (h3 : ¬ l.k = 3) (h4 : ¬ l.k = 4) : Calls Tryz.prog 86 #[.agg (LieC l)] w fun e w' => e = .returned (.func (.func 149) #[] #[]) ∧ Below w.heap.size w w' := by
  have hb := below_alloc w (.cells (LieC l) 59)
  have t1 : (l.k == 1) = false := beq_eq_false_iff_ne.2 h1
  have t2 : (l.k == 2) = false := beq_eq_false_iff_ne.2 h2
  have t3 : (l.k == 3) = false := beq_eq_false_iff_ne.2 h3
  have t4 : (l.k == 4) = false := beq_eq_false_iff_ne.2 h4
  have HB := Lib.hid hb
  clear hb h1 h2 h3 h4
  go_enter Tryz.func86, Tryz.ntmps86
  go_wp2_with fail
  go_ret
  exact ⟨rfl, HB.out⟩
theorem isFnL1 : IsFn 140 := isFn Tryz.func140 (by kernel_rfl) rfl
theorem isFnL2 : IsFn 143 := isFn Tryz.func143 (by kernel_rfl) rfl
theorem isFnL3 : IsFn 147 := isFn Tryz.func147 (by kernel_rfl) rfl
theorem isFnL4 : IsFn 148 := isFn Tryz.func148 (by kernel_rfl) rfl
theorem isFnL5 : IsFn 149 := isFn Tryz.func149 (by kernel_rfl) rfl
def NewStW (w : World) (s : Sto) (e : Ending) (w' : World) : Prop := ∃ va vb vc, e = .returned (.agg #[va, vb, vc]) ∧ OStW w' w.heap.size w'.heap.size s va vb vc ∧ Below w.heap.size w w'
set_option maxRecDepth 8000 in
set_option maxHeartbeats 4000000 in
theorem implLieShow_any (s : Sto) (l : LieV) (va vb vc : Value) (w : World) (lo hi : Nat) (h : RStoL w lo hi s va vb vc) (hhi : hi ≤ w.heap.size) (hl : bSto s ≤ 1099511627) (hlb : l.b.size ≤ maxLen) :
    Calls Tryz.prog 28 #[.agg #[va, vb, vc], .agg (LieC l)] w (NewStW w (lieS s l)) := by
  obtain ⟨A, a, rfl⟩ := RSl.form h.pk
  obtain ⟨B, b, rfl⟩ := RSl.form h.sn
  obtain ⟨C, c, rfl⟩ := RSl.form h.lg
  go_enter Tryz.func28, Tryz.ntmps28
  go_wp2_with fail
  have hbw0 : Below w.heap.size w (((w.alloc (.cells #[.slice A s.pk.length a, .slice B s.sn.length b, .slice C s.lg.length c] 27)).alloc (.cells #[.int .i64 l.k, .int .i64 l.n, .int .i64 l.m, .string l.b] 59)).alloc (.cells #[.slice none 0 0, .slice none 0 0, .slice none 0 0] 27)) := below_alloc' (below_alloc' (below_alloc _ _) _) _
  have k0 : Blk (((w.alloc (.cells #[.slice A s.pk.length a, .slice B s.sn.length b, .slice C s.lg.length c] 27)).alloc (.cells #[.int .i64 l.k, .int .i64 l.n, .int .i64 l.m, .string l.b] 59)).alloc (.cells #[.slice none 0 0, .slice none 0 0, .slice none 0 0] 27)) (w.heap.size) 27 #[.slice A s.pk.length a, .slice B s.sn.length b, .slice C s.lg.length c] := by
    have hk := blk_alloc (blk_alloc (Blk.new w 27 #[.slice A s.pk.length a, .slice B s.sn.length b, .slice C s.lg.length c]) (.cells #[.int .i64 l.k, .int .i64 l.n, .int .i64 l.m, .string l.b] 59)) (.cells #[.slice none 0 0, .slice none 0 0, .slice none 0 0] 27)
    exact hk
  have k1 : Blk (((w.alloc (.cells #[.slice A s.pk.length a, .slice B s.sn.length b, .slice C s.lg.length c] 27)).alloc (.cells #[.int .i64 l.k, .int .i64 l.n, .int .i64 l.m, .string l.b] 59)).alloc (.cells #[.slice none 0 0, .slice none 0 0, .slice none 0 0] 27)) (w.heap.size + 1) 59 #[.int .i64 l.k, .int .i64 l.n, .int .i64 l.m, .string l.b] := by
    have hk := blk_alloc (Blk.new (w.alloc (.cells #[.slice A s.pk.length a, .slice B s.sn.length b, .slice C s.lg.length c] 27)) 59 #[.int .i64 l.k, .int .i64 l.n, .int .i64 l.m, .string l.b]) (.cells #[.slice none 0 0, .slice none 0 0, .slice none 0 0] 27)
    simp only [World.size_alloc] at hk
    exact hk
  have k2 : Blk (((w.alloc (.cells #[.slice A s.pk.length a, .slice B s.sn.length b, .slice C s.lg.length c] 27)).alloc (.cells #[.int .i64 l.k, .int .i64 l.n, .int .i64 l.m, .string l.b] 59)).alloc (.cells #[.slice none 0 0, .slice none 0 0, .slice none 0 0] 27)) (w.heap.size + 1 + 1) 27 #[.slice none 0 0, .slice none 0 0, .slice none 0 0] := by
    have hk := Blk.new ((w.alloc (.cells #[.slice A s.pk.length a, .slice B s.sn.length b, .slice C s.lg.length c] 27)).alloc (.cells #[.int .i64 l.k, .int .i64 l.n, .int .i64 l.m, .string l.b] 59)) 27 #[.slice none 0 0, .slice none 0 0, .slice none 0 0]
    simp only [World.size_alloc] at hk
    exact hk
  have hsw0 : w.heap.size + 3 ≤ (((w.alloc (.cells #[.slice A s.pk.length a, .slice B s.sn.length b, .slice C s.lg.length c] 27)).alloc (.cells #[.int .i64 l.k, .int .i64 l.n, .int .i64 l.m, .string l.b] 59)).alloc (.cells #[.slice none 0 0, .slice none 0 0, .slice none 0 0] 27)).heap.size := by simp only [World.size_alloc]; omega
  generalize (((w.alloc (.cells #[.slice A s.pk.length a, .slice B s.sn.length b, .slice C s.lg.length c] 27)).alloc (.cells #[.int .i64 l.k, .int .i64 l.n, .int .i64 l.m, .string l.b] 59)).alloc (.cells #[.slice none 0 0, .slice none 0 0, .slice none 0 0] 27)) = w0 at *
  have ck0 := k0.cell
  have fk0 := k0.frozen
  have ck1 := k1.cell
  have fk1 := k1.frozen
  have ck2 := k2.cell
  have fk2 := k2.frozen
  refine (storeClone_any s _ _ _ w0 lo hi (h.below hbw0 hhi) (Nat.le_trans hhi hbw0.size) hl).mono ?_
  rintro e w1 ⟨v1, v2, v3, rfl, o1, b1⟩
  obtain ⟨A1, a1, rfl⟩ := ORow.form o1.pk
  obtain ⟨B1, b1', rfl⟩ := ORow.form o1.sn
  obtain ⟨C1, c1, rfl⟩ := ORow.form o1.lg
  replace k1 := blk_keep k1 b1
  replace ck1 := k1.cell
  replace fk1 := k1.frozen
  replace k2 := blk_keep k2 b1
  replace ck2 := k2.cell
  replace fk2 := k2.frozen
  replace hbw0 := below_below hbw0 b1
  have z1 := b1.size
  have o2 := o1.w
  clear k0 ck0 fk0 o1
  have hal := below_alloc w1 (.cells #[.slice A1 s.pk.length a1, .slice B1 s.sn.length b1', .slice C1 s.lg.length c1] 27)
  have ckl := (blk_keep k1 hal).cell
  go_wp2_with fail
  clear hal ckl
  have hbw3 : Below w1.heap.size w1 (w1.alloc (.cells #[.slice A1 s.pk.length a1, .slice B1 s.sn.length b1', .slice C1 s.lg.length c1] 27)) := below_alloc _ _
  have m0 : Blk (w1.alloc (.cells #[.slice A1 s.pk.length a1, .slice B1 s.sn.length b1', .slice C1 s.lg.length c1] 27)) (w1.heap.size) 27 #[.slice A1 s.pk.length a1, .slice B1 s.sn.length b1', .slice C1 s.lg.length c1] := by
    have hk := Blk.new w1 27 #[.slice A1 s.pk.length a1, .slice B1 s.sn.length b1', .slice C1 s.lg.length c1]
    exact hk
  have hsw3 : w1.heap.size + 1 ≤ (w1.alloc (.cells #[.slice A1 s.pk.length a1, .slice B1 s.sn.length b1', .slice C1 s.lg.length c1] 27)).heap.size := by simp only [World.size_alloc]; omega
  generalize (w1.alloc (.cells #[.slice A1 s.pk.length a1, .slice B1 s.sn.length b1', .slice C1 s.lg.length c1] 27)) = w3 at *
  have cm0 := m0.cell
  have fm0 := m0.frozen
  replace k2 := blk_keep k2 hbw3
  replace ck2 := k2.cell
  replace fk2 := k2.frozen
  have hb3 := below_below hbw0 hbw3
  have o3 := o2.below hbw3 (Nat.le_refl _)
  have k3 := m0
  have k1 := k2
  have ck1 := k1.cell
  have fk1 := k1.frozen
  have ck3 := k3.cell
  have fk3 := k3.frozen
  clear m0 cm0 fm0 k2 ck2 fk2 hbw0 o2 hbw3
  by_cases e1 : l.k = 1
  · refine (deceit1_any l w3 e1).mono ?_
    rintro e w4 ⟨gl, rfl, kl, hgl, b4⟩
    have hb4 := below_below hb3 b4
    have k34 := blk_keep k3 b4
    have k14 := blk_keep k1 b4
    have o4 := o3.below b4 (by omega)
    have hcall := isFnL1 (#[.pointer (some ⟨w1.heap.size, 0, none⟩)] ++ #[.pointer (some ⟨gl, 0, none⟩)]) w4
    have z4 := b4.size
    clear k1 ck1 fk1 k3 ck3 fk3 o3
    go_wp2_with fail
    refine (lie1_any s l w1.heap.size gl _ _ _ w4 w0.heap.size w1.heap.size o4 (by omega) k34 kl e1).mono ?_
    rintro e w5 ⟨rfl, ua, ub, uc, k5, o5, c5⟩
    have z5 := c5.size
    have hbT : Below w.heap.size w w5 := hb4.trans (c5.below hb4.size fun i hi hx => by rcases hx with hx | hx <;> omega)
    have k15 := blk_chg k14 c5 fun hx => by
      rcases hx with hx | hx
      · omega
      · omega
    have ck5 := k5.cell
    have ck15 := k15.cell
    have fk15 := k15.frozen
    obtain ⟨A5, a5, rfl⟩ := ORow.form o5.pk
    obtain ⟨B5, b5, rfl⟩ := ORow.form o5.sn
    obtain ⟨C5, d5, rfl⟩ := OHw.form o5.lg
    have HO5 := Lib.hid o5
    clear o5
    go_wp2_with fail
    have hke : ∀ (u1 u2 u3 : Value) (b : Nat), w0.heap.size ≤ b → (((w5.setCell ⟨w.heap.size + 1 + 1, 0, none⟩ u1).setCell ⟨w.heap.size + 1 + 1, 1, none⟩ u2).setCell ⟨w.heap.size + 1 + 1, 2, none⟩ u3).heap[b]? = w5.heap[b]? := fun u1 u2 u3 b hb => by
      rw [Below.heap_setCell _ _ _ _ (by dsimp only; omega), Below.heap_setCell _ _ _ _ (by dsimp only; omega), Below.heap_setCell _ _ _ _ (by dsimp only; omega)]
    refine bodyPost_ret (v := .agg #[.slice A5 (lieS s l).pk.length a5, .slice B5 (lieS s l).sn.length b5, .slice C5 (lieS s l).lg.length d5]) (by simp [results, Tryz.results28, go_sem, ck15]) rfl ⟨_, _, _, rfl, ?_, ?_⟩
    · refine HO5.out.go (fun b hb _ => hke _ _ _ b hb) (by omega) ?_
      simp only [World.size_setCell]
      omega
    · exact ((hbT.setCell (by dsimp only; omega) _).setCell (by dsimp only; omega) _).setCell (by dsimp only; omega) _
  by_cases e2 : l.k = 2
  · refine (deceit2_any l w3 e2).mono ?_
    rintro e w4 ⟨gl, rfl, kl, hgl, b4⟩
    have hb4 := below_below hb3 b4
    have k34 := blk_keep k3 b4
    have k14 := blk_keep k1 b4
    have o4 := o3.below b4 (by omega)
    have hcall := isFnL2 (#[.pointer (some ⟨w1.heap.size, 0, none⟩)] ++ #[.pointer (some ⟨gl, 0, none⟩)]) w4
    have z4 := b4.size
    clear k1 ck1 fk1 k3 ck3 fk3 o3
    go_wp2_with fail
    refine (lie2_any s l w1.heap.size gl _ _ _ w4 w0.heap.size w1.heap.size o4 (by omega) k34 kl e2).mono ?_
    rintro e w5 ⟨rfl, ua, ub, uc, k5, o5, c5⟩
    have z5 := c5.size
    have hbT : Below w.heap.size w w5 := hb4.trans (c5.below hb4.size fun i hi hx => by rcases hx with hx | hx <;> omega)
    have k15 := blk_chg k14 c5 fun hx => by
      rcases hx with hx | hx
      · omega
      · omega
    have ck5 := k5.cell
    have ck15 := k15.cell
    have fk15 := k15.frozen
    obtain ⟨A5, a5, rfl⟩ := ORow.form o5.pk
    obtain ⟨B5, b5, rfl⟩ := ORow.form o5.sn
    obtain ⟨C5, d5, rfl⟩ := OHw.form o5.lg
    have HO5 := Lib.hid o5
    clear o5
    go_wp2_with fail
    have hke : ∀ (u1 u2 u3 : Value) (b : Nat), w0.heap.size ≤ b → (((w5.setCell ⟨w.heap.size + 1 + 1, 0, none⟩ u1).setCell ⟨w.heap.size + 1 + 1, 1, none⟩ u2).setCell ⟨w.heap.size + 1 + 1, 2, none⟩ u3).heap[b]? = w5.heap[b]? := fun u1 u2 u3 b hb => by
      rw [Below.heap_setCell _ _ _ _ (by dsimp only; omega), Below.heap_setCell _ _ _ _ (by dsimp only; omega), Below.heap_setCell _ _ _ _ (by dsimp only; omega)]
    refine bodyPost_ret (v := .agg #[.slice A5 (lieS s l).pk.length a5, .slice B5 (lieS s l).sn.length b5, .slice C5 (lieS s l).lg.length d5]) (by simp [results, Tryz.results28, go_sem, ck15]) rfl ⟨_, _, _, rfl, ?_, ?_⟩
    · refine HO5.out.go (fun b hb _ => hke _ _ _ b hb) (by omega) ?_
      simp only [World.size_setCell]
      omega
    · exact ((hbT.setCell (by dsimp only; omega) _).setCell (by dsimp only; omega) _).setCell (by dsimp only; omega) _
  by_cases e3 : l.k = 3
  · refine (deceit3_any l w3 e3).mono ?_
    rintro e w4 ⟨gl, rfl, kl, hgl, b4⟩
    have hb4 := below_below hb3 b4
    have k34 := blk_keep k3 b4
    have k14 := blk_keep k1 b4
    have o4 := o3.below b4 (by omega)
    have hcall := isFnL3 (#[.pointer (some ⟨w1.heap.size, 0, none⟩)] ++ #[.pointer (some ⟨gl, 0, none⟩)]) w4
    have z4 := b4.size
    clear k1 ck1 fk1 k3 ck3 fk3 o3
    go_wp2_with fail
    refine (lie3_any s l w1.heap.size gl _ _ _ w4 w0.heap.size w1.heap.size o4 (by omega) k34 kl e3 hlb).mono ?_
    rintro e w5 ⟨rfl, ua, ub, uc, k5, o5, c5⟩
    have z5 := c5.size
    have hbT : Below w.heap.size w w5 := hb4.trans (c5.below hb4.size fun i hi hx => by rcases hx with hx | hx <;> omega)
    have k15 := blk_chg k14 c5 fun hx => by
      rcases hx with hx | hx
      · omega
      · omega
    have ck5 := k5.cell
    have ck15 := k15.cell
    have fk15 := k15.frozen
    obtain ⟨A5, a5, rfl⟩ := ORow.form o5.pk
    obtain ⟨B5, b5, rfl⟩ := ORow.form o5.sn
    obtain ⟨C5, d5, rfl⟩ := OHw.form o5.lg
    have HO5 := Lib.hid o5
    clear o5
    go_wp2_with fail
    have hke : ∀ (u1 u2 u3 : Value) (b : Nat), w0.heap.size ≤ b → (((w5.setCell ⟨w.heap.size + 1 + 1, 0, none⟩ u1).setCell ⟨w.heap.size + 1 + 1, 1, none⟩ u2).setCell ⟨w.heap.size + 1 + 1, 2, none⟩ u3).heap[b]? = w5.heap[b]? := fun u1 u2 u3 b hb => by
      rw [Below.heap_setCell _ _ _ _ (by dsimp only; omega), Below.heap_setCell _ _ _ _ (by dsimp only; omega), Below.heap_setCell _ _ _ _ (by dsimp only; omega)]
    refine bodyPost_ret (v := .agg #[.slice A5 (lieS s l).pk.length a5, .slice B5 (lieS s l).sn.length b5, .slice C5 (lieS s l).lg.length d5]) (by simp [results, Tryz.results28, go_sem, ck15]) rfl ⟨_, _, _, rfl, ?_, ?_⟩
    · refine HO5.out.go (fun b hb _ => hke _ _ _ b hb) (by omega) ?_
      simp only [World.size_setCell]
      omega
    · exact ((hbT.setCell (by dsimp only; omega) _).setCell (by dsimp only; omega) _).setCell (by dsimp only; omega) _
  by_cases e4 : l.k = 4
  · refine (deceit4_any l w3 e4).mono ?_
    rintro e w4 ⟨gl, rfl, kl, hgl, b4⟩
    have hb4 := below_below hb3 b4
    have k34 := blk_keep k3 b4
    have k14 := blk_keep k1 b4
    have o4 := o3.below b4 (by omega)
    have hcall := isFnL4 (#[.pointer (some ⟨w1.heap.size, 0, none⟩)] ++ #[.pointer (some ⟨gl, 0, none⟩)]) w4
    have z4 := b4.size
    clear k1 ck1 fk1 k3 ck3 fk3 o3
    go_wp2_with fail
    refine (lie4_any s l w1.heap.size gl _ _ _ w4 w0.heap.size w1.heap.size o4 (by omega) k34 kl e4).mono ?_
    rintro e w5 ⟨rfl, ua, ub, uc, k5, o5, c5⟩
    have z5 := c5.size
    have hbT : Below w.heap.size w w5 := hb4.trans (c5.below hb4.size fun i hi hx => by rcases hx with hx | hx <;> omega)
    have k15 := blk_chg k14 c5 fun hx => by
      rcases hx with hx | hx
      · omega
      · omega
    have ck5 := k5.cell
    have ck15 := k15.cell
    have fk15 := k15.frozen
    obtain ⟨A5, a5, rfl⟩ := ORow.form o5.pk
    obtain ⟨B5, b5, rfl⟩ := ORow.form o5.sn
    obtain ⟨C5, d5, rfl⟩ := OHw.form o5.lg
    have HO5 := Lib.hid o5
    clear o5
    go_wp2_with fail
    have hke : ∀ (u1 u2 u3 : Value) (b : Nat), w0.heap.size ≤ b → (((w5.setCell ⟨w.heap.size + 1 + 1, 0, none⟩ u1).setCell ⟨w.heap.size + 1 + 1, 1, none⟩ u2).setCell ⟨w.heap.size + 1 + 1, 2, none⟩ u3).heap[b]? = w5.heap[b]? := fun u1 u2 u3 b hb => by
      rw [Below.heap_setCell _ _ _ _ (by dsimp only; omega), Below.heap_setCell _ _ _ _ (by dsimp only; omega), Below.heap_setCell _ _ _ _ (by dsimp only; omega)]
    refine bodyPost_ret (v := .agg #[.slice A5 (lieS s l).pk.length a5, .slice B5 (lieS s l).sn.length b5, .slice C5 (lieS s l).lg.length d5]) (by simp [results, Tryz.results28, go_sem, ck15]) rfl ⟨_, _, _, rfl, ?_, ?_⟩
    · refine HO5.out.go (fun b hb _ => hke _ _ _ b hb) (by omega) ?_
      simp only [World.size_setCell]
      omega
    · exact ((hbT.setCell (by dsimp only; omega) _).setCell (by dsimp only; omega) _).setCell (by dsimp only; omega) _
  refine (deceit5_any l w3 e1 e2 e3 e4).mono ?_
  rintro e w4 ⟨rfl, b4⟩
  have HL := Lib.hid (lieS_5 (s := s) e1 e2 e3 e4)
  have hb4 := below_below hb3 b4
  have k34 := blk_keep k3 b4
  have k14 := blk_keep k1 b4
  have o4 := o3.below b4 (by omega)
  have hcall := isFnL5 (#[.pointer (some ⟨w1.heap.size, 0, none⟩)] ++ #[]) w4
  have z4 := b4.size
  clear k1 ck1 fk1 k3 ck3 fk3 o3 e1 e2 e3 e4
  go_wp2_with fail
  refine (lie5_any s (lieS s l) HL.out w1.heap.size _ _ _ w4 w0.heap.size w1.heap.size o4 k34).mono ?_
  rintro e w5 ⟨rfl, ua, ub, uc, k5, o5, c5⟩
  have z5 := c5.size
  have hbT : Below w.heap.size w w5 := hb4.trans (c5.below hb4.size fun i hi hx => by rcases hx with hx | hx <;> omega)
  have k15 := blk_chg k14 c5 fun hx => by
    rcases hx with hx | hx
    · omega
    · omega
  have ck5 := k5.cell
  have ck15 := k15.cell
  have fk15 := k15.frozen
  obtain ⟨A5, a5, rfl⟩ := ORow.form o5.pk
  obtain ⟨B5, b5, rfl⟩ := ORow.form o5.sn
  obtain ⟨C5, d5, rfl⟩ := OHw.form o5.lg
  have HO5 := Lib.hid o5
  clear o5
  go_wp2_with fail
  have hke : ∀ (u1 u2 u3 : Value) (b : Nat), w0.heap.size ≤ b → (((w5.setCell ⟨w.heap.size + 1 + 1, 0, none⟩ u1).setCell ⟨w.heap.size + 1 + 1, 1, none⟩ u2).setCell ⟨w.heap.size + 1 + 1, 2, none⟩ u3).heap[b]? = w5.heap[b]? := fun u1 u2 u3 b hb => by
    rw [Below.heap_setCell _ _ _ _ (by dsimp only; omega), Below.heap_setCell _ _ _ _ (by dsimp only; omega), Below.heap_setCell _ _ _ _ (by dsimp only; omega)]
  refine bodyPost_ret (v := .agg #[.slice A5 (lieS s l).pk.length a5, .slice B5 (lieS s l).sn.length b5, .slice C5 (lieS s l).lg.length d5]) (by simp [results, Tryz.results28, go_sem, ck15]) rfl ⟨_, _, _, rfl, ?_, ?_⟩
  · refine HO5.out.go (fun b hb _ => hke _ _ _ b hb) (by omega) ?_
    simp only [World.size_setCell]
    omega
  · exact ((hbT.setCell (by dsimp only; omega) _).setCell (by dsimp only; omega) _).setCell (by dsimp only; omega) _
end Go.Proofs.YtpdkgpbfmpekgaaGreatDoor

