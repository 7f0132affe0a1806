


/- The draws of indexes. -/
import Derived.Test.YtpdbohjgmghgkaaIxF
import Derived.Test.YtpdbohjgmghgkaaRdP
import Derived.Test.YtpdbohjgmghgkaaStR
import Derived.Test.YtpdbohjgmghgkaaEm
namespace Go.Proofs.Ytpdbohjgmghgkaa
open Go.RowKit

/-- What a draw of an index gives: an index, or one with one spot behind. -/
def IxPost (w : World) (lo hi g : Nat) (l : List Int) (p : Nat) (e : Ending) (w' : World) : Prop :=
  ∃ v ys q, e = .returned v ∧ OwnF FSp 89 w' w.heap.size v ys ∧ ys.length ≤ 10 ∧ (∀ y ∈ ys, FSp.good y) ∧ Rd w' lo hi g l q ∧ q ≤ p + 100 ∧ Chg (fun b => b = g) w w'
set_option maxHeartbeats 8000000 in
theorem l91Index_any (l : List Int) (g p lo hi : Nat) (w : World) (h : Rd w lo hi g l p) (hp : p ≤ 1000) :
    Calls Try.prog 68 #[.pointer (some ⟨g, 0, none⟩)] w (IxPost w lo hi g l p) := by
  go_enter Try.func68, Try.ntmps68
  go_wp2_with fail
  have hrg := h.lt
  refine (pick_any _ _ _ _ _ _ _ (h.alloc _) (by omega)).mono ?_
  rintro e w1 ⟨v1, rfl, ⟨_, hp1⟩, hr1, hc1⟩
  obtain ⟨p1, p2⟩ := hp1 (by omega)
  clear hp1
  go_wp2_with fail
  have o1 : OwnF FSp 89 w1 w.heap.size (.slice (some ⟨w.heap.size, 0, none⟩) 0 0) [] :=
    OwnF.chg (OwnF.lit0 (Lit0.new _ _ (Nat.le_refl _))) hc1 (fun b hb e => by cases hb; exact absurd e (Nat.ne_of_gt hrg))
  have cz : Chg (fun b => b = g) w w1 := ((Chg.refl (fun b => b = g) w).alloc _).trans hc1 fun i _ e => e
  clear hc1
  go_loopw [3, 4] (fun v i wr => ∃ (n : Nat) (q : Nat) (ys : List Sp), i = .int .i64 n ∧ n + ys.length ≤ 7 ∧ q + 10 * n ≤ p + 80 ∧ OwnF FSp 89 wr w.heap.size v ys ∧ (∀ y ∈ ys, FSp.good y) ∧ ascS ys ∧ Rd wr lo hi g l q ∧ Chg (fun b => b = g) w wr) (fun _ i _ => (intOf i).toNat)
  case atStart =>
    obtain ⟨n, rfl⟩ := Int.eq_ofNat_of_zero_le p1
    exact ⟨n, p + 1, [], rfl, by simp; omega, by omega, o1, fun y hy => (by cases hy), List.Pairwise.nil, hr1, cz⟩
  case round =>
    clear o1 cz hr1
    obtain ⟨n, q, ys, rfl, hn, hq, ho, hg, ha, rd, ch⟩ := hrel
    have HA := Lib.hid ha; clear ha
    have HG := Lib.hid hg; clear hg
    obtain ⟨A, c, rfl⟩ := ho.form
    by_cases hn0 : n = 0
    · subst hn0
      go_wp2_with fail
      refine (pick_any _ _ _ _ _ _ 30 rd (by omega)).mono ?_
      rintro e w5 ⟨v7, rfl, ⟨_, p7⟩, rd5, hc5⟩
      obtain ⟨p5, p6⟩ := p7 (by omega)
      clear p7
      have zz := ch.size
      have z5 := hc5.size
      have o5 := (ho.chg hc5 (fun b hb e => by have := ho.at_ hb; omega))
      have ch5 : Chg (fun b => b = g) w w5 := (ch.trans hc5 fun i _ e => e)
      clear ho ch hc5 rd
      by_cases h70 : v7 = 0
      · have t7 : (v7 == 0) = true := beq_iff_eq.2 h70
        go_wp2_with fail
        refine (pick_any _ _ _ _ _ _ 14 rd5 (by omega)).mono ?_
        rintro e w6 ⟨v8, rfl, ⟨_, p8⟩, rd6, hc6⟩
        obtain ⟨p9, p10⟩ := p8 (by omega)
        clear p8
        have z6 := hc6.size
        have o6 := o5.chg hc6 (fun b hb e => by have := o5.at_ hb; omega)
        have ch6 : Chg (fun b => b = g) w w6 := (ch5.trans hc6 fun i _ e => e)
        clear o5 ch5 hc6 rd5
        go_wp2_with fail
        refine (pick_any _ _ _ _ _ _ 7 rd6 (by omega)).mono ?_
        rintro e w7 ⟨v9, rfl, ⟨_, p8⟩, rd7, hc7⟩
        obtain ⟨p11, p12⟩ := p8 (by omega)
        clear p8
        have z7 := hc7.size
        have o7 := o6.chg hc7 (fun b hb e => by have := o6.at_ hb; omega)
        have ch7 : Chg (fun b => b = g) w w7 := (ch6.trans hc7 fun i _ e => e)
        clear o6 ch6 hc7 rd6
        have h64 : FSp.good ⟨v8 - 1, v9⟩ := by show In64 (v8 - 1) ∧ In64 v9; unfold In64; omega
        go_wp2_with (at_builtin; refine app_flat (F := FSp) (v := .slice A ys.length c) rfl (.tmp 23) (.tmp 30) 24 rfl elem_sp ⟨v8 - 1, v9⟩ rfl o7 rfl rfl (by omega) ch7.size ?_; intro va wa oa cha ata; obtain ⟨Aa, ca, rfl⟩ := oa.form; simp only [List.length_append, List.length_cons, List.length_nil, Nat.zero_add] at oa)
        go_ret
        have cha' : Chg (fun b => b = g) w wa := ch7.trans cha fun b hb e => by have := (o7.at_ e).1; omega
        refine ⟨.slice Aa (ys.length + 1) ca, ys ++ [(⟨v8 - 1, v9⟩ : Sp)], q + 1 + 1 + 1, rfl, oa, by simp; omega, fun y hy => ?_, rd7.chg cha (fun b hb e => by have := (o7.at_ e).1; obtain ⟨_, _, _, _, _, hh⟩ := rd7; omega), by omega, cha'⟩
        rcases List.mem_append.1 hy with hy | hy
        · exact HG.out y hy
        · rw [List.mem_singleton.1 hy]; exact h64
      · have t7 : (v7 == 0) = false := beq_eq_false_iff_ne.2 h70
        go_wp2_with fail
        go_ret
        exact ⟨_, ys, q + 1, rfl, o5, by omega, HG.out, rd5, by omega, ch5⟩
    · have hpos : 0 < n := by omega
      go_wp2_with fail
      refine (pick_any _ _ _ _ _ _ 12 rd (by omega)).mono ?_
      rintro e w5 ⟨v7, rfl, ⟨_, p7⟩, rd5, hc5⟩
      obtain ⟨p5, p6⟩ := p7 (by omega)
      clear p7
      go_wp2_with fail
      refine (pick_any _ _ _ _ _ _ 5 rd5 (by omega)).mono ?_
      rintro e w6 ⟨v8, rfl, ⟨_, p8⟩, rd6, hc6⟩
      obtain ⟨p9, p10⟩ := p8 (by omega)
      clear p8
      have zz := ch.size
      have z5 := hc5.size
      have z6 := hc6.size
      have o6 := (ho.chg hc5 (fun b hb e => by have := ho.at_ hb; omega)).chg hc6 (fun b hb e => by have := ho.at_ hb; omega)
      have ch6 : Chg (fun b => b = g) w w6 := (ch.trans hc5 fun i _ e => e).trans hc6 fun i _ e => e
      clear ho ch hc5 hc6 rd5
      have hx64 : FSp.good ⟨v7, 1 + v8⟩ := by show In64 v7 ∧ In64 (1 + v8); unfold In64; omega
      go_wp2_with fail
      refine (l4Put_any ⟨v7, 1 + v8⟩ hx64 ys _ w6 _ _ (Nat.le_refl _) (o6.sl HG.out (Nat.le_refl _)) HA.out (by omega)).mono ?_
      rintro e w7 ⟨v9, rfl, o7, b7⟩
      revert hx64 o7
      generalize (⟨v7, 1 + v8⟩ : Sp) = x
      intro hx64 o7
      have hl7 := putS_len (s := x) (l := ys)
      have hg7 : ∀ y ∈ putS x ys, FSp.good y := fun y hy => by
        rcases putS_mem hy with rfl | hy
        · exact hx64
        · exact HG.out y hy
      have ha7 := putS_asc (s := x) HA.out
      have HL := Lib.hid (And.intro hl7 (And.intro hg7 ha7)); clear hl7 hg7 ha7
      obtain ⟨A7, c7, rfl⟩ := o7.form
      go_wp2_with fail
      go_roundw
      case rel => 
        exact ⟨n - 1, q + 1 + 1, putS x ys, by go_num, by have := HL.out.1; omega, by omega, o7.base (by have := ch6.size; omega), HL.out.2.1, HL.out.2.2, rd6.chg (Chg.of_below (S := fun _ => False) b7) (fun _ _ h => h), ch6.trans (Chg.of_below (S := fun b => b = g) b7) fun i _ e => e⟩
      case measure => simp [intOf]; omega
def Draw2Post (w : World) (e : Ending) (w' : World) : Prop :=
  ∃ va vb a b, e = .returned (.tuple #[va, vb]) ∧ OwnF FSp 89 w' w.heap.size va a ∧ OwnF FSp 89 w' w.heap.size vb b ∧ (a.length ≤ 10 ∧ b.length ≤ 10) ∧ ((∀ y ∈ a, FSp.good y) ∧ ∀ y ∈ b, FSp.good y) ∧ Below w.heap.size w w'
set_option maxHeartbeats 4000000 in
theorem drawIndexMerge_any (l : List Int) (A : Option Addr) (n c : Nat) (w : World) (h : RSl RByte 1 w 0 w.heap.size l [.slice A n c]) :
    Calls Try.prog 25 #[.slice A n c] w (Draw2Post w) := by
  go_enter Try.func25, Try.ntmps25
  go_wp2_with fail
  refine (open_any l A n c w 0 w.heap.size h (Nat.le_refl _)).mono ?_
  rintro e w1 ⟨g, rfl, hr, hg, hb1⟩
  have hgl := hr.lt
  go_wp2_with fail
  refine (l91Index_any _ g 0 _ _ _ hr (by omega)).mono ?_
  rintro e w2 ⟨va, a, q, rfl, o2, l2, g2, hr2, hq, hc2⟩
  clear hr
  have hgw : w.heap.size ≤ g := by omega
  have hb2 := below_chg hb1 hc2 (fun i hi => by omega)
  have G2 := Lib.hid g2; clear g2
  obtain ⟨A1, c1, rfl⟩ := o2.form
  have z2 := hc2.size
  go_wp2_with fail
  refine (l91Index_any _ g q _ _ _ hr2 (by omega)).mono ?_
  rintro e w3 ⟨vb, b, q3, rfl, o3, l3, g3, hr3, hq3, hc3⟩
  have hb3 := below_chg hb2 hc3 (fun i hi => by omega)
  have G3 := Lib.hid g3; clear g3
  obtain ⟨A2, c2, rfl⟩ := o3.form
  have o2' := o2.chg hc3 (fun b hb e => by have := (o2.at_ hb).1; omega)
  have s1 := hb1.size
  have s2 := hb2.size
  go_wp2_with fail
  exact bodyPost_ret (v := .tuple #[.slice A1 a.length c1, .slice A2 b.length c2]) (by simp [results, Try.results25, go_sem]) rfl ⟨_, _, a, b, rfl, o2'.base (by omega), o3.base (by omega), ⟨l2, l3⟩, ⟨G2.out, G3.out⟩, hb3⟩
end Go.Proofs.Ytpdbohjgmghgkaa
