


/- The draw of packs for the index laws. -/
import Derived.Test.YtanppokbjladfaaDrPk
namespace Go.Proofs.Ytanppokbjladfaa
open Go.RowKit

section
variable {α : Type} {E : Rep α} {T : List TypeId} {sz : Nat} {e : TypeId}
theorem OwnD.some_ {w : World} {lo base : Nat} {v : Value} {xs : List α} (h : OwnD E sz e w lo base v xs) (hp : 0 < xs.length) : ∃ g c, v = .slice (some ⟨g, 0, none⟩) xs.length c := by
  obtain ⟨cells, h, _⟩ := h
  rcases h.2 with ⟨_, h0⟩ | ⟨g, cap, cur, rfl, _⟩
  · omega
  · exact ⟨g, cap, rfl⟩
theorem OwnD.frozen {w : World} {lo base g c : Nat} {xs : List α} (h : OwnD E sz e w lo base (.slice (some ⟨g, 0, none⟩) xs.length c) xs) (j : Nat) : w.frozen? ⟨g, j, none⟩ = false := by
  obtain ⟨cells, h, _⟩ := h
  exact h.frozenAt j
/-- A cell of an owned deep row is written. -/
theorem OwnD.put (hE : TLoc E T) (heT : e ∉ T) {w : World} {lo base g c : Nat} {xs : List α} (h : OwnD E sz e w lo base (.slice (some ⟨g, 0, none⟩) xs.length c) xs) {i j : Nat} {x y : α} {u : Value} (hx : xs[i]? = some x) (hj : j < sz) (hu : u.oneCell' = true) (hy : ∀ (w' : World) (hi : Nat) (es : List Value), E w' lo hi x es → E w' lo hi y (es.set j u)) :
    OwnD E sz e (w.setCell ⟨g, i * sz + j, none⟩ u) lo base (.slice (some ⟨g, 0, none⟩) xs.length c) (xs.set i y) := by
  have hob := h.blk (g := g) rfl
  obtain ⟨cells, h1, h0, h2⟩ := h
  have hch := (Chg.refl (fun b => b = g) w).setCell (p := ⟨g, i * sz + j, none⟩) (.inl rfl) u
  have hkeep : ∀ {z : α} {zs : List Value}, E w lo w.heap.size z zs → E (w.setCell ⟨g, i * sz + j, none⟩ u) lo (w.setCell ⟨g, i * sz + j, none⟩ u).heap.size z zs := fun hz =>
    hE.wide (hE.chg hz hch fun b _ _ ⟨t', ht', ds, hd⟩ he => by
      obtain ⟨ds', hd'⟩ := hob
      have he' : b = g := he
      subst he'
      exact heT (blk_type hd' hd ▸ ht')) (Nat.le_refl _) hch.size
  refine ⟨cells.set (i * sz + j) u, by rw [List.length_set]; exact (h1.stored (i * sz + j) u).1, fun v hv => ?_, fun k z hz => ?_⟩
  · rcases List.mem_or_eq_of_mem_set hv with hv | rfl
    · exact h0 v hv
    · exact hu
  · by_cases hk : i = k
    · subst hk
      rw [List.getElem?_set_self (lt_of_some hx)] at hz
      cases hz
      obtain ⟨es, hl, he, hc⟩ := h2 i x hx
      refine ⟨es.set j u, by rw [List.length_set]; exact hl, hkeep (hy _ _ _ he), fun j' u' hu' => ?_⟩
      by_cases hjj : j = j'
      · subst hjj
        rw [List.getElem?_set_self (by omega)] at hu'
        cases hu'
        have hlt := lt_of_some (hc j es[j] (List.getElem?_eq_getElem (by omega)))
        exact List.getElem?_set_self hlt
      · rw [List.getElem?_set_ne hjj] at hu'
        rw [List.getElem?_set_ne (by omega)]
        exact hc j' u' hu'
    · rw [List.getElem?_set_ne hk] at hz
      obtain ⟨es, hl, he, hc⟩ := h2 k z hz
      refine ⟨es, hl, hkeep he, fun j' u' hu' => ?_⟩
      have hj' := lt_of_some hu'
      rw [List.getElem?_set_ne ?_]
      · exact hc j' u' hu'
      · rcases Nat.lt_or_gt_of_ne hk with hlt | hlt
        · have := Nat.mul_le_mul_right sz hlt; rw [Nat.succ_mul] at this; omega
        · have := Nat.mul_le_mul_right sz hlt; rw [Nat.succ_mul] at this; omega
end
def PksIs (no : Int) (xs : List Pk) : Prop := (∀ x ∈ xs, PkIs x ∧ 1 ≤ x.no ∧ x.no ≤ no) ∧ xs.Pairwise fun a b => a.no < b.no
/-- The packs that the draw of IndexOf gives. -/
def IxPks (xs : List Pk) : Prop := (∀ x ∈ xs, (∀ y ∈ x.its, 0 ≤ y.n ∧ y.n ≤ 999999999988) ∧ (0 ≤ x.no ∧ x.no ≤ 6) ∧ (1 ≤ x.its.length ∧ x.its.length ≤ 5)) ∧ xs.length ≤ 3 ∧ ∀ i x, xs[i]? = some x → i = 0 ∨ 1 ≤ x.no
theorem pks_ix {no : Int} {xs : List Pk} (h : PksIs no xs) (h6 : no ≤ 6) (hl : xs.length ≤ 3) : IxPks xs := ⟨fun x hx => by
  obtain ⟨a, b, c⟩ := h.1 x hx
  exact ⟨a.1, by omega, a.2.1⟩, hl, fun i x hi => .inr (h.1 x (List.mem_of_getElem? hi)).2.1⟩
theorem pks_ix0 {xs : List Pk} {x : Pk} (h : IxPks xs) (hx : xs[0]? = some x) : IxPks (xs.set 0 ⟨0, x.its⟩) := by
  refine ⟨fun y hy => ?_, by rw [List.length_set]; exact h.2.1, fun i y hi => ?_⟩
  rotate_left
  · by_cases h0 : i = 0
    · exact .inl h0
    · rw [List.getElem?_set_ne (fun e => h0 e.symm)] at hi
      exact h.2.2 i y hi
  rcases List.mem_or_eq_of_mem_set hy with hy | rfl
  · exact h.1 y hy
  · obtain ⟨a, b, c⟩ := h.1 x (List.mem_of_getElem? hx)
    exact ⟨a, ⟨Int.le_refl _, by dsimp only; omega⟩, c⟩
theorem pks_snoc {no d : Int} {xs : List Pk} {x : Pk} (h : PksIs no xs) (h0 : 0 ≤ no) (hd : no < d) (hd6 : d ≤ 6) (hx : PkIs x) : PksIs d (xs ++ [⟨d, x.its⟩]) := by
  constructor
  · intro y hy
    rcases List.mem_append.1 hy with hy | hy
    · obtain ⟨a, b, c⟩ := h.1 y hy; exact ⟨a, b, by omega⟩
    · rw [List.mem_singleton.1 hy]
      exact ⟨⟨hx.1, hx.2.1, by unfold In64; dsimp only; omega, hx.2.2.2⟩, by dsimp only; omega, by dsimp only; omega⟩
  · rw [List.pairwise_append]
    refine ⟨h.2, by simp, fun a ha b hb => ?_⟩
    rw [List.mem_singleton.1 hb]
    have := (h.1 a ha).2.2
    show a.no < d; omega
def PksPost (w : World) (lo hi g : Nat) (l : List Int) (p : Nat) (e : Ending) (w' : World) : Prop := ∃ (v : Value) (xs : List Pk) (q : Nat) (no : Int), e = .returned v ∧ OwnD RPk 2 37 w' w.heap.size w.heap.size v xs ∧ (0 ≤ no ∧ no ≤ 6) ∧ xs.length ≤ 3 ∧ PksIs no xs ∧ Rd w' lo hi g l q ∧ q ≤ p + 400 ∧ Chg (fun b => b = g) w w'
set_option maxHeartbeats 4000000 in
theorem l91Packs_any (l : List Int) (g p lo hi : Nat) (w : World) (hr : Rd w lo hi g l p) (hp : p ≤ 5000) :
    Calls Try.prog 53 #[.pointer (some ⟨g, 0, none⟩)] w (PksPost w lo hi g l p) := by
  have hrg := hr.lt
  have hhg := hr.hi_
  go_enter Try.func53, Try.ntmps53
  go_wp2_with fail
  have rdA := hr.alloc (.cells #[] 37)
  have l0 : OwnD RPk 2 37 (w.alloc (.cells #[] 37)) w.heap.size w.heap.size (.slice (some ⟨w.heap.size, 0, none⟩) 0 0) [] := OwnD.lit0 (Lit0.new _ _ (Nat.le_refl _))
  have chA := (Chg.refl (fun b => b = g) w).alloc (.cells #[] 37)
  generalize w.alloc (.cells #[] 37) = w0 at *
  refine (pick_any _ _ _ _ _ _ _ rdA (by omega)).mono ?_
  rintro e w1 ⟨m, rfl, ⟨_, hm⟩, rd1, hc1⟩
  obtain ⟨m1, m2⟩ := hm (by omega)
  clear hm
  replace l0 := l0.chg RPk.tloc hc1 (fun b hb e => by cases hb; exact absurd e (Nat.ne_of_gt hrg)) (fun b hb _ e => by have e' : b = g := e; omega)
  replace chA := chA.trans hc1 fun i _ e => e
  clear hc1 rdA
  go_wp2_with fail
  go_loopw [3, 4, 5] (fun oo nn ii wr => ∃ (j : Int) (no : Int) (q : Nat) (xs : List Pk), ii = .int .i64 j ∧ nn = .int .i64 no ∧ (0 ≤ j ∧ j + xs.length ≤ 3) ∧ (0 ≤ no ∧ no ≤ 2 * xs.length) ∧ q ≤ p + 1 + 110 * xs.length ∧ OwnD RPk 2 37 wr w.heap.size w.heap.size oo xs ∧ PksIs no xs ∧ Rd wr lo hi g l q ∧ Chg (fun b => b = g) w wr) (fun _ _ ii _ => (intOf ii).toNat)
  case atStart => exact ⟨m, 0, p + 1, [], rfl, rfl, by simp; omega, by simp, by simp, l0, ⟨fun s hs => (by cases hs), List.Pairwise.nil⟩, rd1, chA⟩
  case round =>
    clear l0 chA rd1
    obtain ⟨j, no, q, xs, rfl, rfl, hj, hno, hq, ho, hxs, rd, ch⟩ := hrel
    have HXS := Lib.hid hxs; clear hxs
    obtain ⟨A, c, rfl⟩ := ho.form
    by_cases h0 : 0 < j
    · go_wp2_with fail
      refine (pick_any _ _ _ _ _ _ 2 rd (by omega)).mono ?_
      rintro e w2 ⟨m2, rfl, ⟨_, hm2⟩, rd2, hc2⟩
      obtain ⟨n1, n2⟩ := hm2 (by omega)
      clear hm2
      have z1 := ch.size
      have o2 := ho.chg RPk.tloc hc2 (fun b hb e => by have := ho.at_ hb; omega) (fun b hb _ e => by have e' : b = g := e; omega)
      have ch2 := ch.trans hc2 fun i _ e => e
      clear ho rd ch hc2
      go_wp2_with fail
      refine (l91Pack_any l g _ lo hi w2 rd2 (by omega)).mono ?_
      rintro e w3 ⟨pk, v, mm, q3, rfl, o3, hpk, rd3, hq3, hc3⟩
      obtain ⟨A3, c3, rfl⟩ := o3.form
      have z2 := ch2.size
      have z3 := hc3.size
      have p3 := o2.chg RPk.tloc hc3 (fun b hb e => by have := o2.at_ hb; omega) (fun b hb _ e => by have e' : b = g := e; omega)
      have ch3 := ch2.trans hc3 fun i _ e => e
      have hat := fun b hb => o2.at_ (g := b) hb
      have HPK := Lib.hid hpk; clear hpk
      clear o2 rd2 ch2 hc3
      obtain ⟨pno, its⟩ := pk
      dsimp only at *
      have hg3 : g < w3.heap.size := by omega
      have i64 : In64 (no + 1 + m2) := by unfold In64; omega
      have ba := below_alloc w3 (.cells #[.int .i64 (no + 1 + m2), .slice A3 its.length c3] 37)
      have hsz : (w3.alloc (.cells #[.int .i64 (no + 1 + m2), .slice A3 its.length c3] 37)).heap.size = w3.heap.size + 1 := by simp
      have HP4 : Hid (OwnD RPk 2 37 (w3.alloc (.cells #[.int .i64 (no + 1 + m2), .slice A3 its.length c3] 37)) w.heap.size w.heap.size (.slice A xs.length c) xs) := Lib.hid (p3.below RPk.tloc (ba.mono (Nat.le_refl _)))
      have HO4 : Hid (RPk (w3.alloc (.cells #[.int .i64 (no + 1 + m2), .slice A3 its.length c3] 37)) w.heap.size (w3.alloc (.cells #[.int .i64 (no + 1 + m2), .slice A3 its.length c3] 37)).heap.size ⟨no + 1 + m2, its⟩ [.int .i64 (no + 1 + m2), .slice A3 its.length c3]) :=
        Lib.hid ⟨_, rfl, i64, ((o3.below ba).deep HPK.out.2.2.2 w.heap.size).sl (by omega)⟩
      have HSZ := Lib.hid hsz; clear hsz
      have HRD := Lib.hid (rd3.alloc (.cells #[.int .i64 (no + 1 + m2), .slice A3 its.length c3] 37))
      have HCH := Lib.hid (ch3.alloc (.cells #[.int .i64 (no + 1 + m2), .slice A3 its.length c3] 37))
      have hln : xs.length ≤ 2 := by omega
      clear ba i64 rd3 ch3 p3 o3
      go_wp2_with (at_builtin; refine app_deep RPk.tloc (by decide) rfl (.tmp 27) (.tmp 29) 26 rfl elem_pk ⟨no + 1 + m2, its⟩ rfl HP4.out (congrArg (fun n => Value.slice (some ⟨n, 0, none⟩) 1 1) HSZ.out.symm) rfl (by simp [Value.oneCell']) HO4.out (by omega) (by rw [HSZ.out]; omega) ?_; intro v8 w8 o8 ch8 at8; obtain ⟨A8, c8, rfl⟩ := o8.form; simp only [List.length_append, List.length_cons, List.length_nil, Nat.zero_add] at o8)
      go_roundw
      case rel =>
        refine ⟨j - 1, no + 1 + m2, q3, xs ++ [⟨no + 1 + m2, its⟩], rfl, rfl, by simp; omega, by simp; omega, by simp; omega, o8, pks_snoc HXS.out hno.1 (by omega) (by omega) HPK.out, HRD.out.chg ch8 (fun b hb e => ?_), HCH.out.trans ch8 fun b hb e => ?_⟩
        · have := hat b e
          rcases hb with hb | hb <;> omega
        · have := hat b e
          omega
      case measure => simp [intOf]; omega
    · obtain rfl : j = 0 := by omega
      go_wp2_with fail
      go_ret
      exact ⟨_, xs, q, no, rfl, ho, by omega, by omega, HXS.out, rd, by omega, ch⟩
set_option maxHeartbeats 4000000 in
theorem drawIndexOf_any (A : Option Addr) (n c : Nat) (l : List Int) (w : World) (h : RSl RByte 1 w 0 w.heap.size l [.slice A n c]) :
    Calls Try.prog 19 #[.slice A n c] w fun e w' => ∃ (v : Value) (xs : List Pk), e = .returned v ∧ RPks w' w.heap.size w'.heap.size xs [v] ∧ IxPks xs ∧ Below w.heap.size w w' := by
  go_enter Try.func19, Try.ntmps19
  go_wp2_with fail
  refine (open_any l A n c w 0 w.heap.size h (Nat.le_refl _)).mono ?_
  rintro e w1 ⟨g, rfl, hr, hg, hb1⟩
  have hgl := hr.lt
  go_wp2_with fail
  refine (l91Packs_any _ g 0 _ _ _ hr (by omega)).mono ?_
  rintro e w2 ⟨v, xs, q, no, rfl, o2, hno, hln, hxs, hr2, hq, hc2⟩
  clear hr
  have HXS := Lib.hid hxs; clear hxs
  have hgw : w.heap.size ≤ g := by omega
  have hb2 := below_chg hb1 hc2 (fun i hi => by omega)
  obtain ⟨A1, c1, rfl⟩ := o2.form
  have z2 := hc2.size
  by_cases hp0 : 0 < xs.length
  rotate_left
  · have t1 : decide (0 < (xs.length : Int)) = false := decide_eq_false (by omega)
    go_wp2_with fail
    exact bodyPost_ret (v := .slice A1 xs.length c1) (by simp [results, Try.results19, go_sem]) rfl ⟨_, xs, rfl, (o2.low RPk.tloc (by omega)).sl (by omega), (pks_ix HXS.out hno.2 hln), hb2⟩
  · have t1 : decide (0 < (xs.length : Int)) = true := decide_eq_true (by omega)
    go_wp2_with fail
    refine (pick_any _ _ _ _ _ _ 24 hr2 (by omega)).mono ?_
    rintro e w3 ⟨m, rfl, ⟨_, hm⟩, rd3, hc3⟩
    clear hm
    have hat := fun b hb => o2.at_ (g := b) hb
    have o3 := o2.chg RPk.tloc hc3 (fun b hb e => by have e' : b = g := e; have := hat b hb; omega) (fun b hb _ e => by have e' : b = g := e; omega)
    have hb3 := below_chg hb2 hc3 (fun i hi => by omega)
    clear o2 hr2 hc3 hc2 hb2
    by_cases hm0 : m = 0
    · have t2 : (m == 0) = true := beq_iff_eq.2 hm0
      clear hm0
      obtain ⟨x0, hx0⟩ := some_of_lt hp0
      obtain ⟨gi, ci, hAc⟩ := o3.some_ hp0
      simp only [Value.slice.injEq] at hAc
      obtain ⟨rfl, -, rfl⟩ := hAc
      obtain ⟨b', off', A', c', e', -, -, -, hc0, -⟩ := pk_at (o3.sl (Nat.le_refl _)) hx0
      cases e'
      have hcc : w3.cell? ⟨gi, 0, none⟩ = some (.int .i64 x0.no) := by simpa using hc0
      have hfz : ∀ j : Nat, w3.frozen? ⟨gi, j, none⟩ = false := o3.frozen
      have o4 : OwnD RPk 2 37 (w3.setCell ⟨gi, 0, none⟩ (.int .i64 0)) w1.heap.size w1.heap.size (.slice (some ⟨gi, 0, none⟩) xs.length c1) (xs.set 0 ⟨0, x0.its⟩) :=
        o3.put RPk.tloc (by decide) (i := 0) (j := 0) hx0 (by decide) rfl fun w' hi es ⟨v, e, i, hr⟩ => ⟨v, by rw [e]; rfl, by unfold In64; dsimp only; omega, hr⟩
      have hgi := hat gi rfl
      have hb4 := below_chg hb3 ((Chg.refl (fun b => b = gi) w3).setCell (p := ⟨gi, 0, none⟩) (.inl rfl) (.int .i64 0)) (fun i hi => by omega)
      have HX0 := Lib.hid hx0; clear hx0 hc0
      go_wp2_with fail
      exact bodyPost_ret (v := .slice (some ⟨gi, 0, none⟩) xs.length c1) (by simp [results, Try.results19, go_sem]) rfl ⟨_, xs.set 0 ⟨0, x0.its⟩, rfl, (o4.low RPk.tloc (by omega)).sl (by omega), (pks_ix0 (pks_ix HXS.out hno.2 hln) HX0.out), hb4⟩
    · have t2 : (m == 0) = false := beq_eq_false_iff_ne.2 hm0
      clear hm0
      go_wp2_with fail
      exact bodyPost_ret (v := .slice A1 xs.length c1) (by simp [results, Try.results19, go_sem]) rfl ⟨_, xs, rfl, (o3.low RPk.tloc (by omega)).sl (by omega), (pks_ix HXS.out hno.2 hln), hb3⟩
end Go.Proofs.Ytanppokbjladfaa
