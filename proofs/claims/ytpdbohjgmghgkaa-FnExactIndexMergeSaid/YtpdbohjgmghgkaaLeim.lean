


/- The law FnExactIndexMerge: for all two lists of spots the program's IndexMerge returns what the reference's returns, leaves its arguments as they were, and hands back memory of its own. No condition. -/
import Derived.Test.YtpdbohjgmghgkaaLaw
import Derived.Test.YtpdbohjgmghgkaaHeard
import Derived.Test.YtpdbohjgmghgkaaEnter
import Derived.Test.YtpdbohjgmghgkaaMake
import Derived.Test.YtpdbohjgmghgkaaOpSp
namespace Go.Proofs.Ytpdbohjgmghgkaa.laweim
open Go.RowKit Go.ChangeShapes Go.WideShapes Go.ChangeAt

theorem putsS_good : ∀ {a b : List Sp}, (∀ x ∈ a, FSp.good x) → (∀ x ∈ b, FSp.good x) → ∀ x ∈ putsS a b, FSp.good x := fun ha hb x hx => by
  rcases putsS_mem hx with h | h
  · exact ha x h
  · exact hb x h
theorem good' {a b r : List Sp} (h : IMerge a b r) (ha : ∀ x ∈ a, FSp.good x) (hb : ∀ x ∈ b, FSp.good x) : ∀ x ∈ r, FSp.good x := by
  rcases h with ⟨_, rfl⟩ | ⟨_, rfl⟩
  · exact putsS_good ha hb
  · exact fun x hx => (by cases hx)
theorem len' {a b r : List Sp} (h : IMerge a b r) : r.length ≤ a.length + b.length := by
  rcases h with ⟨_, rfl⟩ | ⟨_, rfl⟩
  · exact putsS_len
  · simp

set_option maxHeartbeats 4000000 in
theorem walk (a : List Sp) {va : Value} {w : World} (ha : RSl RSp 2 w 0 w.heap.size a [va]) (b : List Sp) {vb : Value} (hb : RSl RSp 2 w 0 w.heap.size b [vb]) (w' : World) (hw : w' = w := by rfl) :
    Calls Try.prog 3 #[va, vb] w' fun e w' => e = .returned (.bool true) ∧ Below w.heap.size w w' := by
  subst hw
  obtain ⟨A, c, rfl⟩ := ha.form
  obtain ⟨B, d, rfl⟩ := hb.form
  obtain ⟨_, hc, hx⟩ := ha.len_
  obtain ⟨_, hd, hy⟩ := hb.len_
  unfold maxLen at hx hy
  obtain ⟨r, hr0⟩ := IMerge_total a b
  have hr := Lib.hid hr0; clear hr0
  have hga : ∀ x ∈ a, FSp.good x := RSl.good ha
  have hgb : ∀ x ∈ b, FSp.good x := RSl.good hb
  have hgr := Lib.hid (good' hr.out hga hgb)
  have hlr := len' hr.out
  by_cases hbig : 1048576 < a.length
  · go_enter Try.func3, Try.ntmps3
    go_wp2_with fail
    refine (szSpotS_any a.length c A 1048576 _ (by omega) (by omega) (by omega) (-1) (.inl ⟨by omega, rfl⟩)).mono ?_
    rintro e w1 ⟨rfl, rfl⟩
    go_wp2_with fail
    go_ret
    exact ⟨rfl, Below.refl _ _⟩
  by_cases hbig2 : 1048576 < a.length + b.length
  · go_enter Try.func3, Try.ntmps3
    go_wp2_with fail
    refine (szSpotS_any a.length c A 1048576 _ (by omega) (by omega) (by omega) _ (.inr ⟨by omega, rfl⟩)).mono ?_
    rintro e w1 ⟨rfl, rfl⟩
    have hz : ∃ z : Int, z = 1048576 - (a.length : Int) ∧ 0 ≤ z ∧ z ≤ 1048576 ∧ z - b.length < 0 := ⟨_, rfl, by omega, by omega, by omega⟩
    obtain ⟨z, hz, hz0, hz1, hz2⟩ := hz
    rw [← hz]
    clear hz
    go_wp2_with fail
    refine (szSpotS_any b.length d B z _ (by omega) (by omega) (by omega) (-1) (.inl ⟨by omega, rfl⟩)).mono ?_
    rintro e w1 ⟨rfl, rfl⟩
    go_wp2_with fail
    go_ret
    exact ⟨rfl, Below.refl _ _⟩
  go_enter Try.func3, Try.ntmps3
  go_wp2_with fail
  refine (szSpotS_any a.length c A 1048576 _ (by omega) (by omega) (by omega) _ (.inr ⟨by omega, rfl⟩)).mono ?_
  rintro e w1 ⟨rfl, rfl⟩
  have hz : ∃ z : Int, z = 1048576 - (a.length : Int) ∧ 0 ≤ z ∧ z ≤ 1048576 ∧ 0 ≤ z - b.length := ⟨_, rfl, by omega, by omega, by omega⟩
  obtain ⟨z, hz, hz0, hz1, hz2⟩ := hz
  rw [← hz]
  clear hz
  go_wp2_with fail
  refine (szSpotS_any b.length d B z _ (by omega) (by omega) (by omega) _ (.inr ⟨by omega, rfl⟩)).mono ?_
  rintro e w1 ⟨rfl, rfl⟩
  have hz : ∃ y : Int, y = z - (b.length : Int) ∧ 0 ≤ y ∧ y ≤ 1048576 := ⟨_, rfl, by omega, by omega⟩
  obtain ⟨y, hz, hz3, hz4⟩ := hz
  rw [← hz]
  clear hz hz2
  go_wp2_with fail
  have la : a.length ≤ 1048576 := by omega
  have lb : b.length ≤ 1048576 := by omega
  have lr : r.length ≤ 1048576 := by omega
  have lab : a.length + b.length ≤ 100000000 := by omega
  have bb : Below w'.heap.size w' w' := Below.refl _ _
  go_wp2_with fail
  refine (toSpotS_any a _ _ 0 w'.heap.size (sl_keep RSp.loc ha bb (Nat.le_refl _)) bb.size la).mono ?_
  rintro e w1 ⟨v1, rfl, o1, b1⟩
  obtain ⟨Av1, cv1, rfl⟩ := o1.form
  have sw1 := b1.size
  replace bb := below_below bb b1
  clear b1
  have ato1 := Lib.hid (fun g hg => o1.at_ (g := g) hg)
  go_wp2_with fail
  refine (toSpotS_any b _ _ 0 w'.heap.size (sl_keep RSp.loc hb bb (Nat.le_refl _)) bb.size lb).mono ?_
  rintro e w2 ⟨v2, rfl, o2, b2⟩
  obtain ⟨Av2, cv2, rfl⟩ := o2.form
  have sw2 := b2.size
  replace o1 := o1.below b2
  replace bb := below_below bb b2
  clear b2
  have ato2 := Lib.hid (fun g hg => o2.at_ (g := g) hg)
  go_wp2_with fail
  refine (specIndexMerge_any a b _ _ _ _ _ (Nat.le_refl _) ((o1.base (Nat.zero_le _)).sl hga (Nat.le_refl _)) ((o2.base (Nat.zero_le _)).sl hgb (Nat.le_refl _)) lab r hr.out).mono ?_
  rintro e w3 ⟨u1, rfl, p1, b3⟩
  obtain ⟨Au1, cu1, rfl⟩ := p1.form
  have sw3 := b3.size
  replace o1 := o1.below b3
  replace o2 := o2.below b3
  replace bb := below_below bb b3
  clear b3
  have atp1 := Lib.hid (fun g hg => p1.at_ (g := g) hg)
  clear o1
  clear o2
  go_wp2_with fail
  refine (toSpotS_any a _ _ 0 w'.heap.size (sl_keep RSp.loc ha bb (Nat.le_refl _)) bb.size la).mono ?_
  rintro e w4 ⟨v3, rfl, o3, b4⟩
  obtain ⟨Av3, cv3, rfl⟩ := o3.form
  have sw4 := b4.size
  replace p1 := p1.below b4
  replace bb := below_below bb b4
  clear b4
  have ato3 := Lib.hid (fun g hg => o3.at_ (g := g) hg)
  go_wp2_with fail
  refine (toSpotS_any b _ _ 0 w'.heap.size (sl_keep RSp.loc hb bb (Nat.le_refl _)) bb.size lb).mono ?_
  rintro e w5 ⟨v4, rfl, o4, b5⟩
  obtain ⟨Av4, cv4, rfl⟩ := o4.form
  have sw5 := b5.size
  replace p1 := p1.below b5
  replace o3 := o3.below b5
  replace bb := below_below bb b5
  clear b5
  have ato4 := Lib.hid (fun g hg => o4.at_ (g := g) hg)
  go_wp2_with fail
  refine (implIndexMerge_any a b _ _ _ _ _ (Nat.le_refl _) ((o3.base (Nat.zero_le _)).sl hga (Nat.le_refl _)) ((o4.base (Nat.zero_le _)).sl hgb (Nat.le_refl _)) lab r hr.out).mono ?_
  rintro e w6 ⟨u2, rfl, p2, b6⟩
  obtain ⟨Au2, cu2, rfl⟩ := p2.form
  have sw6 := b6.size
  replace p1 := p1.below b6
  replace o3 := o3.below b6
  replace o4 := o4.below b6
  replace bb := below_below bb b6
  clear b6
  have atp2 := Lib.hid (fun g hg => p2.at_ (g := g) hg)
  go_wp2_with fail
  refine (eqSpotS_any r r _ _ _ _ _ _ _ (p2.sl hgr.out (Nat.le_refl _)) (p1.sl hgr.out (Nat.le_refl _)) (Nat.le_refl _) (Nat.le_refl _) true (by simp)).mono ?_
  rintro e w7 ⟨rfl, b7⟩
  have sw7 := b7.size
  replace p1 := p1.below b7
  replace o3 := o3.below b7
  replace o4 := o4.below b7
  replace p2 := p2.below b7
  replace bb := below_below bb b7
  clear b7
  go_wp2_with fail
  refine (toSpotS_any a _ _ 0 w'.heap.size (sl_keep RSp.loc ha bb (Nat.le_refl _)) bb.size la).mono ?_
  rintro e w8 ⟨v5, rfl, o5, b8⟩
  obtain ⟨Av5, cv5, rfl⟩ := o5.form
  have sw8 := b8.size
  replace p1 := p1.below b8
  replace o3 := o3.below b8
  replace o4 := o4.below b8
  replace p2 := p2.below b8
  replace bb := below_below bb b8
  clear b8
  have ato5 := Lib.hid (fun g hg => o5.at_ (g := g) hg)
  go_wp2_with fail
  refine (eqSpotS_any a a _ _ _ _ _ _ _ (o3.sl hga (Nat.le_refl _)) (o5.sl hga (Nat.le_refl _)) (Nat.le_refl _) (Nat.le_refl _) true (by simp)).mono ?_
  rintro e w9 ⟨rfl, b9⟩
  have sw9 := b9.size
  replace p1 := p1.below b9
  replace o3 := o3.below b9
  replace o4 := o4.below b9
  replace p2 := p2.below b9
  replace o5 := o5.below b9
  replace bb := below_below bb b9
  clear b9
  clear o5
  go_wp2_with fail
  refine (toSpotS_any b _ _ 0 w'.heap.size (sl_keep RSp.loc hb bb (Nat.le_refl _)) bb.size lb).mono ?_
  rintro e w10 ⟨v6, rfl, o6, b10⟩
  obtain ⟨Av6, cv6, rfl⟩ := o6.form
  have sw10 := b10.size
  replace p1 := p1.below b10
  replace o3 := o3.below b10
  replace o4 := o4.below b10
  replace p2 := p2.below b10
  replace bb := below_below bb b10
  clear b10
  have ato6 := Lib.hid (fun g hg => o6.at_ (g := g) hg)
  go_wp2_with fail
  refine (eqSpotS_any b b _ _ _ _ _ _ _ (o4.sl hgb (Nat.le_refl _)) (o6.sl hgb (Nat.le_refl _)) (Nat.le_refl _) (Nat.le_refl _) true (by simp)).mono ?_
  rintro e w11 ⟨rfl, b11⟩
  have sw11 := b11.size
  replace p1 := p1.below b11
  replace o3 := o3.below b11
  replace o4 := o4.below b11
  replace p2 := p2.below b11
  replace o6 := o6.below b11
  replace bb := below_below bb b11
  clear b11
  clear o6
  go_wp2_with fail
  refine (markSpotS_any a.length _ _ _ _ 1 o3 la (by omega) (by omega)).mono ?_
  rintro e w12 ⟨rfl, m3, ch12⟩
  clear o3
  replace p1 := p1.chg ch12 (fun b hb hs => by have h1 := (atp1.out b hb).1; have h2 := (ato3.out b hs).1; have h3 := (atp1.out b hb).2; have h4 := (ato3.out b hs).2; omega)
  replace o4 := o4.chg ch12 (fun b hb hs => by have h1 := (ato4.out b hb).1; have h2 := (ato3.out b hs).1; have h3 := (ato4.out b hb).2; have h4 := (ato3.out b hs).2; omega)
  replace p2 := p2.chg ch12 (fun b hb hs => by have h1 := (atp2.out b hb).1; have h2 := (ato3.out b hs).1; have h3 := (atp2.out b hb).2; have h4 := (ato3.out b hs).2; omega)
  replace bb := bb.trans (ch12.below bb.size fun i hi hs => by have := (ato3.out i hs).1; omega)
  have sw12 := ch12.size
  clear m3
  go_wp2_with fail
  refine (markSpotS_any b.length _ _ _ _ (1 + (a.length : Int) * 2) o4 lb (by omega) (by omega)).mono ?_
  rintro e w13 ⟨rfl, m4, ch13⟩
  clear o4
  replace p1 := p1.chg ch13 (fun b hb hs => by have h1 := (atp1.out b hb).1; have h2 := (ato4.out b hs).1; have h3 := (atp1.out b hb).2; have h4 := (ato4.out b hs).2; omega)
  replace p2 := p2.chg ch13 (fun b hb hs => by have h1 := (atp2.out b hb).1; have h2 := (ato4.out b hs).1; have h3 := (atp2.out b hb).2; have h4 := (ato4.out b hs).2; omega)
  replace bb := bb.trans (ch13.below bb.size fun i hi hs => by have := (ato4.out i hs).1; omega)
  have sw13 := ch13.size
  clear m4
  go_wp2_with fail
  refine (eqSpotS_any r r _ _ _ _ _ _ _ (p2.sl hgr.out (Nat.le_refl _)) (p1.sl hgr.out (Nat.le_refl _)) (Nat.le_refl _) (Nat.le_refl _) true (by simp)).mono ?_
  rintro e w14 ⟨rfl, b14⟩
  have sw14 := b14.size
  replace p1 := p1.below b14
  replace p2 := p2.below b14
  replace bb := below_below bb b14
  clear b14
  go_wp2_with fail
  refine (markSpotS_any r.length _ _ _ _ 1 p2 lr (by omega) (by omega)).mono ?_
  rintro e w15 ⟨rfl, m2, ch15⟩
  clear p2
  replace p1 := p1.chg ch15 (fun b hb hs => by have h1 := (atp1.out b hb).1; have h2 := (atp2.out b hs).1; have h3 := (atp1.out b hb).2; have h4 := (atp2.out b hs).2; omega)
  replace bb := bb.trans (ch15.below bb.size fun i hi hs => by have := (atp2.out i hs).1; omega)
  have sw15 := ch15.size
  go_wp2_with fail
  refine (heldSpotS_any r.length _ _ _ 1 m2 lr (by omega) (by omega)).mono ?_
  rintro e w16 ⟨rfl, rfl⟩
  go_wp2_with fail
  refine (toSpotS_any a _ _ 0 w'.heap.size (sl_keep RSp.loc ha bb (Nat.le_refl _)) bb.size la).mono ?_
  rintro e w17 ⟨v7, rfl, o7, b17⟩
  obtain ⟨Av7, cv7, rfl⟩ := o7.form
  have sw17 := b17.size
  replace p1 := p1.below b17
  replace m2 := own_below' m2 b17
  replace bb := below_below bb b17
  clear b17
  have ato7 := Lib.hid (fun g hg => o7.at_ (g := g) hg)
  go_wp2_with fail
  refine (toSpotS_any b _ _ 0 w'.heap.size (sl_keep RSp.loc hb bb (Nat.le_refl _)) bb.size lb).mono ?_
  rintro e w18 ⟨v8, rfl, o8, b18⟩
  obtain ⟨Av8, cv8, rfl⟩ := o8.form
  have sw18 := b18.size
  replace p1 := p1.below b18
  replace m2 := own_below' m2 b18
  replace o7 := o7.below b18
  replace bb := below_below bb b18
  clear b18
  have ato8 := Lib.hid (fun g hg => o8.at_ (g := g) hg)
  go_wp2_with fail
  refine (implIndexMerge_any a b _ _ _ _ _ (Nat.le_refl _) ((o7.base (Nat.zero_le _)).sl hga (Nat.le_refl _)) ((o8.base (Nat.zero_le _)).sl hgb (Nat.le_refl _)) lab r hr.out).mono ?_
  rintro e w19 ⟨u3, rfl, p3, b19⟩
  obtain ⟨Au3, cu3, rfl⟩ := p3.form
  have sw19 := b19.size
  replace p1 := p1.below b19
  replace m2 := own_below' m2 b19
  replace o7 := o7.below b19
  replace o8 := o8.below b19
  replace bb := below_below bb b19
  clear b19
  have atp3 := Lib.hid (fun g hg => p3.at_ (g := g) hg)
  clear o7
  clear o8
  go_wp2_with fail
  refine (eqSpotS_any r r _ _ _ _ _ _ _ (p3.sl hgr.out (Nat.le_refl _)) (p1.sl hgr.out (Nat.le_refl _)) (Nat.le_refl _) (Nat.le_refl _) true (by simp)).mono ?_
  rintro e w20 ⟨rfl, b20⟩
  have sw20 := b20.size
  replace p1 := p1.below b20
  replace m2 := own_below' m2 b20
  replace p3 := p3.below b20
  replace bb := below_below bb b20
  clear b20
  go_wp2_with fail
  refine (heldSpotS_any r.length _ _ _ 1 m2 lr (by omega) (by omega)).mono ?_
  rintro e w21 ⟨rfl, rfl⟩
  go_wp2_with fail
  go_ret
  exact ⟨rfl, bb⟩

set_option maxRecDepth 100000 in
theorem lifted (os : Os) (started : os.Started) (H : Type) (enc : TypeId × Value → H) :
    ReturnsInHanded {} Try.checked os 3 .any (Rows.fnExactIndexMergeSpec.pre6 enc Try.prog Try.f3 Rows.fnExactIndexMergeRow.domain false) (Rows.fnExactIndexMergeSpec.post enc Try.prog Try.f3 false true false false) := by
  refine law_lifted own started (by kernel_rfl) Try.func3 laidOut (by kernel_rfl) rfl Try.underlying4 rfl (fun ds hl => ?_)
    (ChangeSpec.witness6 (enc := enc) (C := Try.checked) false ⟨#[], #[.slice none 0 0, .slice none 0 0], []⟩ 8 (by kernel_rfl) (by kernel_rfl) (by kernel_rfl) (by kernel_rfl)) ?_
  · match ds, hl with
    | [_, _], _ => rfl
  intro W base args ds p hval0 hA hlt hsz hsh
  have hval : ∀ (j : Nat) t v, Try.f3.params[j]? = some t → args[j]? = some v → Value.okWide Try.prog W .any base t v := hval0
  rw [Try.params3] at hA hval
  obtain ⟨v0, v1, d0, d1, p0, p1, rfl, rfl, rfl, h0, h1⟩ := trodAll_two hA
  obtain ⟨a0_0, r0⟩ := open_spots (hval 0 22 v0 rfl rfl) h0 (by first | exact hlt | exact fun x hx => hlt x (by simp [hx]))
  obtain ⟨a1_0, r1⟩ := open_spots (hval 1 22 v1 rfl rfl) h1 (by first | exact hlt | exact fun x hx => hlt x (by simp [hx]))
  exact walk a0_0 r0 a1_0 r1 W

set_option maxRecDepth 100000 in
theorem factsHold : joinedFacts Try.pinned.checked.prog 3 Try.f3 Rows.fnExactIndexMergeSpec Rows.fnExactIndexMergeRow = true := by
  unfold joinedFacts
  rw [liftsFinal, mayEnter, makeIs]
  kernel_rfl
set_option maxRecDepth 100000 in
theorem proved : Rows.FnExactIndexMergeSaid :=
  OpenClaim.holds_of_wide 3 Try.f3 rfl rfl rfl rfl rfl rfl rfl ⟨rfl, rfl, rfl, rfl, rfl⟩ rfl rfl rfl rfl rfl (by kernel_rfl) Try.func3 factsHold
    (of_decide_eq_true (by kernel_rfl)) (by unfold Func.isWrapper; first | (rw [if_pos (by decide +kernel)]; kernel_rfl) | (rw [if_neg (by decide +kernel)]; exact ⟨rfl, rfl⟩))
    (fun os started H enc _ => lifted os started H enc)
#print axioms proved
end Go.Proofs.Ytpdbohjgmghgkaa.laweim
