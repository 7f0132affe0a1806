


/- The law FnExactIndexOf: for all packs the program's IndexOf returns what the reference's returns, leaves its argument as it was, and hands back memory of its own. No condition. -/
import Derived.Test.YtanppokbjladfaaLaw
import Derived.Test.YtanppokbjladfaaHeard
import Derived.Test.YtanppokbjladfaaEnter
import Derived.Test.YtanppokbjladfaaMake
import Derived.Test.YtanppokbjladfaaOpSto
import Derived.Test.YtanppokbjladfaaMPack
import Derived.Test.YtanppokbjladfaaESpot
import Derived.Test.YtanppokbjladfaaPkI
import Derived.Test.YtanppokbjladfaaSm
namespace Go.Proofs.Ytanppokbjladfaa.lawexio
open Go.RowKit Go.ChangeShapes Go.WideShapes Go.ChangeAt

theorem spots_cnt (l : List Pk) : (spots l).length = cntS pkN l := by
  induction l with
  | nil => rfl
  | cons x l ih =>
    have e : spots (x :: l) = spotsP x ++ spots l := by unfold spots; rw [List.flatMap_cons]
    rw [e, List.length_append, ih]
    unfold cntS spotsP
    rw [List.length_map, List.map_cons, List.sum_cons]; rfl
theorem npk_bulk (l : List Pk) : cntS nPk l ≤ 2 * bulkS bPk l := by
  unfold cntS bulkS
  induction l with
  | nil => simp
  | cons x l ih =>
    rw [List.map_cons, List.map_cons, List.sum_cons, List.sum_cons, List.length_cons]
    have h1 : cntS nIt x.its = 2 * x.its.length := by
      unfold cntS
      generalize x.its = m
      induction m with
      | nil => rfl
      | cons y m ih => rw [List.map_cons, List.sum_cons, ih, List.length_cons]; unfold nIt; omega
    have h2 : x.its.length ≤ bPk x := bulkS_len
    have h3 : nPk x = 1 + cntS nIt x.its := rfl
    omega
set_option maxRecDepth 8000 in
set_option maxHeartbeats 4000000 in
theorem walk (xs : List Pk) {v : Value} {w : World} (h : RPksL w 0 w.heap.size xs [v]) (w' : World) (hw : w' = w := by rfl) :
    Calls Try.prog 3 #[v] w' fun e w' => e = .returned (.bool true) ∧ Below w.heap.size w w' := by
  subst hw
  obtain ⟨A, a, rfl⟩ := RSl.form h
  obtain ⟨r, hr0⟩ := IOf_total xs
  have hr := Lib.hid hr0; clear hr0
  go_enter Try.func3, Try.ntmps3
  go_wp2_with fail
  refine (szPackS_any xs _ 1048576 _ 0 w'.heap.size h (Nat.le_refl _) (by omega) (by omega)).mono ?_
  rintro e w1 ⟨rfl, bb⟩
  have z1 := bb.size
  by_cases hbig : (1048576 : Int) - ((bulkS bPk xs : Nat) : Int) < 0
  · rw [sub0_neg hbig]
    clear hbig
    go_wp2_with fail
    go_ret
    exact ⟨rfl, bb⟩
  have hb : bulkS bPk xs ≤ 1048576 := by omega
  have hsp : (spots xs).length ≤ 1048576 := by rw [spots_cnt]; exact Nat.le_trans (cnt_bulk xs) hb
  have hrl : r.length ≤ 1048576 := Nat.le_trans hr.out.len hsp
  have hnk : cntS nPk xs ≤ 2097152 := by have := npk_bulk xs; omega
  have hgr := Lib.hid (sp_good hr.out.ix)
  have HB := Lib.hid hb; clear hb
  have HSP := Lib.hid (show (spots xs).length ≤ 4000000 by omega); clear hsp
  rw [sub0_pos (by omega)]
  have hz : ∃ z : Int, z = 1048576 - ((bulkS bPk xs : Nat) : Int) ∧ 0 ≤ z := ⟨_, rfl, by omega⟩
  obtain ⟨z, hz, hz0⟩ := hz
  rw [← hz]
  clear hz hbig
  go_wp2_with fail
  refine (toPackS_any xs _ _ 0 w'.heap.size (RPksL.loc.below h bb (Nat.le_refl _)) bb.size HB.out).mono ?_
  rintro e w2 ⟨v1, rfl, o1, b2⟩
  have z2 := b2.size
  obtain ⟨A1, a1, rfl⟩ := o1.form
  replace bb := below_below bb b2
  go_wp2_with fail
  refine (specIndexOf_any xs _ _ _ _ (Nat.le_refl _) (OPks.t o1) HSP.out r hr.out).mono ?_
  rintro e w3 ⟨u1, rfl, p1, b3⟩
  have z3 := b3.size
  obtain ⟨Au1, cu1, rfl⟩ := p1.form
  replace bb := below_below bb b3
  have atp1 := Lib.hid (fun g hg => p1.at_ (g := g) hg)
  clear o1
  go_wp2_with fail
  refine (toPackS_any xs _ _ 0 w'.heap.size (RPksL.loc.below h bb (Nat.le_refl _)) bb.size HB.out).mono ?_
  rintro e w4 ⟨v3, rfl, o3, b4⟩
  obtain ⟨A3, a3, rfl⟩ := o3.form
  replace bb := below_below bb b4
  replace p1 := p1.below b4
  have z4 := b4.size
  go_wp2_with fail
  refine (implIndexOf_any xs _ _ _ _ (Nat.le_refl _) (OPks.t o3) HSP.out r hr.out).mono ?_
  rintro e w5 ⟨u2, rfl, p2, b5⟩
  obtain ⟨Au2, cu2, rfl⟩ := p2.form
  replace bb := below_below bb b5
  replace p1 := p1.below b5
  replace o3 := OPks.tloc.below o3 b5 (Nat.le_refl _)
  have z5 := b5.size
  have atp2 := Lib.hid (fun g hg => p2.at_ (g := g) hg)
  go_wp2_with fail
  refine (eqSpotS_any r r _ _ _ _ _ _ _ (p2.sl hgr.out (Nat.le_refl _)) (p1.sl hgr.out (Nat.le_refl _)) (Nat.le_refl _) (Nat.le_refl _) true (by simp)).mono ?_
  rintro e w6 ⟨rfl, b6⟩
  replace bb := below_below bb b6
  replace p1 := p1.below b6
  replace p2 := p2.below b6
  replace o3 := OPks.tloc.below o3 b6 (by omega)
  have z6 := b6.size
  go_wp2_with fail
  refine (toPackS_any xs _ _ 0 w'.heap.size (RPksL.loc.below h bb (Nat.le_refl _)) bb.size HB.out).mono ?_
  rintro e w7 ⟨v4, rfl, o4, b7⟩
  obtain ⟨A4, a4, rfl⟩ := o4.form
  replace bb := below_below bb b7
  replace p1 := p1.below b7
  replace p2 := p2.below b7
  replace o3 := OPks.tloc.below o3 b7 (by omega)
  have z7 := b7.size
  go_wp2_with fail
  refine (eqPackS_any xs xs _ _ _ _ _ _ _ (OPks.l o3) (OPks.l o4) (by omega) (Nat.le_refl _) true (by simp)).mono ?_
  rintro e w8 ⟨rfl, b8⟩
  replace bb := below_below bb b8
  replace p1 := p1.below b8
  replace p2 := p2.below b8
  replace o3 := OPks.tloc.below o3 b8 (by omega)
  have z8 := b8.size
  clear o4
  go_wp2_with fail
  refine (markPackS_any xs _ _ _ _ 1 o3 (by omega) (by omega) (by omega)).mono ?_
  rintro e w9 ⟨rfl, -, c9⟩
  replace bb := bb.trans (c9.below bb.size fun i hi hs => by have := b3.size; have := b2.size; omega)
  replace p1 := p1.chg c9 fun g hg hs => by have := atp1.out g hg; omega
  replace p2 := p2.chg c9 fun g hg hs => by have := atp2.out g hg; omega
  have z9 := c9.size
  clear o3 c9
  have hkk : ∃ kk : Int, kk = 1 + ((cntS nPk xs : Nat) : Int) ∧ 0 ≤ kk := ⟨_, rfl, by omega⟩
  obtain ⟨kk, hkk, hkk0⟩ := hkk
  rw [← hkk]
  clear hkk
  have hd : decide (kk < 0) = false := decide_eq_false (by omega)
  go_wp2_with fail
  refine (eqSpotS_any r r _ _ _ _ _ _ _ (p2.sl hgr.out (Nat.le_refl _)) (p1.sl hgr.out (Nat.le_refl _)) (Nat.le_refl _) (Nat.le_refl _) true (by simp)).mono ?_
  rintro e w10 ⟨rfl, b10⟩
  replace bb := below_below bb b10
  replace p1 := p1.below b10
  replace p2 := p2.below b10
  go_wp2_with fail
  refine (markSpotS_any r.length (flats FSp r) _ _ _ 1 p2 hrl (by omega) (by omega)).mono ?_
  rintro e w11 ⟨rfl, m2, c11⟩
  replace bb := bb.trans (c11.below bb.size fun i hi hs => by have := atp2.out i hs; have := b4.size; have := b3.size; have := b2.size; omega)
  replace p1 := p1.chg c11 fun g hg hs => by have := atp2.out g hs; have := atp1.out g hg; omega
  clear p2 c11
  go_wp2_with fail
  refine (heldSpotS_any r.length _ _ _ 1 m2 hrl (by omega) (by omega)).mono ?_
  rintro e w12 ⟨rfl, rfl⟩
  have hqq : ∃ q : Int, q = 1 + ((r.length : Nat) : Int) * 2 ∧ 0 ≤ q := ⟨_, rfl, by omega⟩
  obtain ⟨q, hqq, hq0⟩ := hqq
  rw [← hqq]
  have HQQ := Lib.hid hqq; clear hqq
  have hd2 : decide (q < 0) = false := decide_eq_false (by omega)
  have hd3 : (q != q) = false := by simp
  go_wp2_with fail
  refine (toPackS_any xs _ _ 0 w'.heap.size (RPksL.loc.below h bb (Nat.le_refl _)) bb.size HB.out).mono ?_
  rintro e w13 ⟨v5, rfl, o5, b13⟩
  obtain ⟨A5, a5, rfl⟩ := o5.form
  replace bb := below_below bb b13
  replace p1 := p1.below b13
  replace m2 := own_below' m2 b13
  go_wp2_with fail
  refine (implIndexOf_any xs _ _ _ _ (Nat.le_refl _) (OPks.t o5) HSP.out r hr.out).mono ?_
  rintro e w14 ⟨u3, rfl, p3, b14⟩
  obtain ⟨Au3, cu3, rfl⟩ := p3.form
  replace bb := below_below bb b14
  replace p1 := p1.below b14
  replace m2 := own_below' m2 b14
  clear o5
  go_wp2_with fail
  refine (eqSpotS_any r r _ _ _ _ _ _ _ (p3.sl hgr.out (Nat.le_refl _)) (p1.sl hgr.out (Nat.le_refl _)) (Nat.le_refl _) (Nat.le_refl _) true (by simp)).mono ?_
  rintro e w15 ⟨rfl, b15⟩
  replace bb := below_below bb b15
  replace m2 := own_below' m2 b15
  go_wp2_with fail
  refine (heldSpotS_any r.length _ _ _ 1 m2 hrl (by omega) (by omega)).mono ?_
  rintro e w16 ⟨rfl, rfl⟩
  rw [← HQQ.out]
  go_wp2_with fail
  go_ret
  exact ⟨rfl, bb⟩
set_option maxRecDepth 100000 in
theorem lifted (os : Os) (started : os.Started) (H : Type) (enc : TypeId × Value → H) :
    ReturnsInHanded {} Try.checked os 3 .any (Rows.fnExactIndexOfSpec.pre6 enc Try.prog Try.f3 Rows.fnExactIndexOfRow.domain false) (Rows.fnExactIndexOfSpec.post enc Try.prog Try.f3 false true false false) := by
  refine law_lifted own started (by kernel_rfl) Try.func3 laidOut (by kernel_rfl) rfl Try.underlying4 rfl (fun ds hl => ?_)
    (ChangeSpec.witness6 (enc := enc) (C := Try.checked) false ⟨#[], #[.slice none 0 0], []⟩ 8 (by kernel_rfl) (by kernel_rfl) (by kernel_rfl) (by kernel_rfl)) ?_
  · match ds, hl with
    | [_], _ => rfl
  intro W base args ds p hval0 hA hlt hsz hsh
  have hval : ∀ (j : Nat) t v, Try.f3.params[j]? = some t → args[j]? = some v → Value.okWide Try.prog W .any base t v := hval0
  rw [Try.params3] at hA hval
  obtain ⟨v0, d0, rfl, rfl, h0⟩ := trodAll_one hA
  obtain ⟨a0_0, r0⟩ := open_packs (hval 0 22 v0 rfl rfl) h0 (by first | exact hlt | exact fun x hx => hlt x (by simp [hx]))
  exact walk a0_0 r0 W

set_option maxRecDepth 100000 in
theorem factsHold : joinedFacts Try.pinned.checked.prog 3 Try.f3 Rows.fnExactIndexOfSpec Rows.fnExactIndexOfRow = true := by
  unfold joinedFacts
  rw [liftsFinal, mayEnter, makeIs]
  kernel_rfl
set_option maxRecDepth 100000 in
theorem proved : Rows.FnExactIndexOfSaid :=
  OpenClaim.holds_of_wide 3 Try.f3 rfl rfl rfl rfl rfl rfl rfl ⟨rfl, rfl, rfl, rfl, rfl⟩ rfl rfl rfl rfl rfl (by kernel_rfl) Try.func3 factsHold
    (of_decide_eq_true (by kernel_rfl)) (by unfold Func.isWrapper; first | (rw [if_pos (by decide +kernel)]; kernel_rfl) | (rw [if_neg (by decide +kernel)]; exact ⟨rfl, rfl⟩))
    (fun os started H enc _ => lifted os started H enc)
#print axioms proved
end Go.Proofs.Ytanppokbjladfaa.lawexio
