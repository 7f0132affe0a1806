


/- The draws of snapshots with their days, and of rules. -/
import Derived.Test.YtpdbohjgmghgkaaKpG
import Derived.Test.YtpdbohjgmghgkaaRdP
import Derived.Test.YtpdbohjgmghgkaaStR
import Derived.Test.YtpdbohjgmghgkaaEm
namespace Go.Proofs.Ytpdbohjgmghgkaa
open Go.RowKit

/-- What a draw of snapshots gives. -/
def StPost (w : World) (lo hi g : Nat) (l : List Int) (p : Nat) (e : Ending) (w' : World) : Prop :=
  ∃ v ys q, e = .returned v ∧ OwnF FSt 76 w' w.heap.size v ys ∧ ys.length ≤ 10 ∧ (∀ y ∈ ys, FSt.good y) ∧ Rd w' lo hi g l q ∧ q ≤ p + 100 ∧ Chg (fun b => b = g) w w'
theorem lit6_at {k : Nat} (hk : k < 6) : ∃ d : Int, 0 ≤ d ∧ d ≤ 8 ∧ (#[Value.int .i64 0, .int .i64 0, .int .i64 1, .int .i64 1, .int .i64 3, .int .i64 8] : Array Value)[k]? = some (.int .i64 d) := by
  match k, hk with
  | 0, _ => exact ⟨0, by omega, by omega, rfl⟩
  | 1, _ => exact ⟨0, by omega, by omega, rfl⟩
  | 2, _ => exact ⟨1, by omega, by omega, rfl⟩
  | 3, _ => exact ⟨1, by omega, by omega, rfl⟩
  | 4, _ => exact ⟨3, by omega, by omega, rfl⟩
  | 5, _ => exact ⟨8, by omega, by omega, rfl⟩
set_option maxHeartbeats 8000000 in
theorem l92Stamps_any (l : List Int) (g p lo hi : Nat) (w : World) (h : Rd w lo hi g l p) (hp : p ≤ 1000) :
    Calls Try.prog 86 #[.pointer (some ⟨g, 0, none⟩)] w (StPost w lo hi g l p) := by
  go_enter Try.func86, Try.ntmps86
  go_wp2_with fail
  have hrg := h.lt
  refine (pick_any _ _ _ _ _ _ _ (h.alloc _) (by omega)).mono ?_
  rintro e w1 ⟨v1, rfl, ⟨_, hp1⟩, hr1, hc1⟩
  obtain ⟨p1, p2⟩ := hp1 (by omega)
  clear hp1
  go_wp2_with fail
  refine (pick_any _ _ _ _ _ _ _ hr1 (by omega)).mono ?_
  rintro e w2 ⟨v2, rfl, ⟨_, hp2⟩, hr2, hc2⟩
  obtain ⟨p3, p4⟩ := hp2 (by omega)
  clear hp2
  go_wp2_with fail
  have o0 : OwnF FSt 76 w1 w.heap.size (.slice (some ⟨w.heap.size, 0, none⟩) 0 0) [] :=
    OwnF.chg (OwnF.lit0 (Lit0.new _ _ (Nat.le_refl _))) hc1 (fun b hb e => by cases hb; exact absurd e (Nat.ne_of_gt hrg))
  have o1 : OwnF FSt 76 w2 w.heap.size (.slice (some ⟨w.heap.size, 0, none⟩) 0 0) [] :=
    OwnF.chg o0 hc2 (fun b hb e => by cases hb; exact absurd e (Nat.ne_of_gt hrg))
  have cz : Chg (fun b => b = g) w w2 := (((Chg.refl (fun b => b = g) w).alloc _).trans hc1 fun i _ e => e).trans hc2 fun i _ e => e
  clear hc1 hc2 o0 hr1
  go_loopw [3, 4, 5, 6] (fun v s d i wr => ∃ (n : Nat) (q : Nat) (ys : List St) (a b : Int), s = .int .i64 a ∧ d = .int .i64 b ∧ i = .int .i64 n ∧ n + ys.length ≤ 9 ∧ q + 2 * n ≤ p + 20 ∧ OwnF FSt 76 wr w.heap.size v ys ∧ (∀ y ∈ ys, FSt.good y) ∧ (0 ≤ a ∧ a + 2 * n ≤ 18) ∧ (0 ≤ b ∧ b + 8 * n ≤ 81) ∧ Rd wr lo hi g l q ∧ Chg (fun b => b = g) w wr) (fun _ _ _ i _ => (intOf i).toNat)
  case atStart =>
    obtain ⟨n, rfl⟩ := Int.eq_ofNat_of_zero_le p3
    exact ⟨n, p + 1 + 1, [], 0, v1, rfl, rfl, rfl, by simp; omega, by omega, o1, fun y hy => (by cases hy), by omega, by omega, hr2, cz⟩
  case round =>
    clear o1 cz hr2
    obtain ⟨n, q, ys, a, b, rfl, rfl, rfl, hn, hq, ho, hg, ha, hb, rd, ch⟩ := hrel
    have HG := Lib.hid hg; clear hg
    obtain ⟨A, c, rfl⟩ := ho.form
    by_cases hn0 : n = 0
    · subst hn0
      go_wp2_with fail
      refine (pick_any _ _ _ _ _ _ 30 rd (by omega)).mono ?_
      rintro e w5 ⟨v7, rfl, ⟨_, p7⟩, rd5, hc5⟩
      clear p7
      have zz := ch.size
      have z5 := hc5.size
      have o5 := (ho.chg hc5 (fun b hb e => by have := ho.at_ hb; omega))
      have ch5 : Chg (fun b => b = g) w w5 := (ch.trans hc5 fun i _ e => e)
      clear ho ch hc5 rd
      by_cases h70 : v7 = 0
      · have t7 : (v7 == 0) = true := beq_iff_eq.2 h70
        go_wp2_with fail
        refine (pick_any _ _ _ _ _ _ 23 rd5 (by omega)).mono ?_
        rintro e w6 ⟨v8, rfl, ⟨_, p8⟩, rd6, hc6⟩
        obtain ⟨p9, p10⟩ := p8 (by omega)
        clear p8
        have z6 := hc6.size
        have o6 := o5.chg hc6 (fun b hb e => by have := o5.at_ hb; omega)
        have ch6 : Chg (fun b => b = g) w w6 := (ch5.trans hc6 fun i _ e => e)
        clear o5 ch5 hc6 rd5
        go_wp2_with fail
        refine (pick_any _ _ _ _ _ _ 101 rd6 (by omega)).mono ?_
        rintro e w7 ⟨v9, rfl, ⟨_, p8⟩, rd7, hc7⟩
        obtain ⟨p11, p12⟩ := p8 (by omega)
        clear p8
        have z7 := hc7.size
        have o7 := o6.chg hc7 (fun b hb e => by have := o6.at_ hb; omega)
        have ch7 : Chg (fun b => b = g) w w7 := (ch6.trans hc7 fun i _ e => e)
        clear o6 ch6 hc7 rd6
        have h64 : FSt.good ⟨v8, v9⟩ := by show In64 v8 ∧ In64 v9; unfold In64; omega
        go_wp2_with (at_builtin; refine app_flat (F := FSt) (v := .slice A ys.length c) rfl (.tmp 37) (.tmp 43) 66 rfl elem_st ⟨v8, v9⟩ rfl o7 rfl rfl (by omega) ch7.size ?_; intro va wa oa cha ata; obtain ⟨Aa, ca, rfl⟩ := oa.form; simp only [List.length_append, List.length_cons, List.length_nil, Nat.zero_add] at oa)
        go_ret
        have cha' : Chg (fun b => b = g) w wa := ch7.trans cha fun b hb e => by have := (o7.at_ e).1; omega
        refine ⟨.slice Aa (ys.length + 1) ca, ys ++ [(⟨v8, v9⟩ : St)], q + 1 + 1 + 1, rfl, oa, by simp; omega, fun y hy => ?_, rd7.chg cha (fun b hb e => by have := (o7.at_ e).1; obtain ⟨_, _, _, _, _, hh⟩ := rd7; omega), by omega, cha'⟩
        rcases List.mem_append.1 hy with hy | hy
        · exact HG.out y hy
        · rw [List.mem_singleton.1 hy]; exact h64
      · have t7 : (v7 == 0) = false := beq_eq_false_iff_ne.2 h70
        go_wp2_with fail
        go_ret
        exact ⟨_, ys, q + 1, rfl, o5, by omega, HG.out, rd5, by omega, ch5⟩
    · have hpos : 0 < n := by omega
      go_wp2_with fail
      refine (pick_any _ _ _ _ _ _ 2 rd (by omega)).mono ?_
      rintro e w5 ⟨v7, rfl, ⟨_, p7⟩, rd5, hc5⟩
      obtain ⟨p5, p6⟩ := p7 (by omega)
      clear p7
      have zz := ch.size
      have z5 := hc5.size
      have o5 := (ho.chg hc5 (fun b hb e => by have := ho.at_ hb; omega))
      have ch5 : Chg (fun b => b = g) w w5 := (ch.trans hc5 fun i _ e => e)
      clear ho ch hc5 rd
      go_wp2_with fail
      have kl := Blk.new w5 3 #[.int .i64 0, .int .i64 0, .int .i64 1, .int .i64 1, .int .i64 3, .int .i64 8]
      have rdA := rd5.alloc (.cells #[.int .i64 0, .int .i64 0, .int .i64 1, .int .i64 1, .int .i64 3, .int .i64 8] 3)
      have oA := o5.below (below_alloc w5 (.cells #[.int .i64 0, .int .i64 0, .int .i64 1, .int .i64 1, .int .i64 3, .int .i64 8] 3))
      have chA := ch5.alloc (.cells #[.int .i64 0, .int .i64 0, .int .i64 1, .int .i64 1, .int .i64 3, .int .i64 8] 3)
      have zA : w5.heap.size ≤ (w5.alloc (.cells #[.int .i64 0, .int .i64 0, .int .i64 1, .int .i64 1, .int .i64 3, .int .i64 8] 3)).heap.size := by simp
      have hg5 : g < w5.heap.size := by have := rd5.lt; omega
      generalize w5.alloc (.cells #[.int .i64 0, .int .i64 0, .int .i64 1, .int .i64 1, .int .i64 3, .int .i64 8] 3) = wA at *
      refine (pick_any _ _ _ _ _ _ 6 rdA (by omega)).mono ?_
      rintro e w6 ⟨v8, rfl, ⟨_, p8⟩, rd6, hc6⟩
      obtain ⟨p9, p10⟩ := p8 (by omega)
      clear p8
      replace kl := blk_chg kl hc6 (by omega)
      have z6 := hc6.size
      have o6 := oA.chg hc6 (fun b hb e => by have := oA.at_ hb; omega)
      have ch6 : Chg (fun b => b = g) w w6 := chA.trans hc6 fun i _ e => e
      clear oA chA hc6 rdA o5 ch5 rd5
      obtain ⟨k, rfl⟩ := Int.eq_ofNat_of_zero_le p9
      obtain ⟨dd, hd1, hd2, hd3⟩ := lit6_at (k := k) (by omega)
      have ckl : w6.cell? ⟨w5.heap.size, k, none⟩ = some (.int .i64 dd) := by rw [kl.cell]; exact hd3
      clear hd3
      have h64 : FSt.good ⟨a + 1 + v7, b + dd⟩ := by show In64 (a + 1 + v7) ∧ In64 (b + dd); unfold In64; omega
      go_wp2_with (at_builtin; refine app_flat (F := FSt) (v := .slice A ys.length c) rfl (.tmp 28) (.tmp 32) 66 rfl elem_st ⟨a + 1 + v7, b + dd⟩ rfl o6 rfl rfl (by omega) ch6.size ?_; intro va wa oa cha ata; obtain ⟨Aa, ca, rfl⟩ := oa.form; simp only [List.length_append, List.length_cons, List.length_nil, Nat.zero_add] at oa)
      have cha' : Chg (fun b => b = g) w wa := ch6.trans cha fun b hb e => by have := (o6.at_ e).1; omega
      go_roundw
      case rel =>
        refine ⟨n - 1, q + 1 + 1, ys ++ [(⟨a + 1 + v7, b + dd⟩ : St)], a + 1 + v7, b + dd, by go_num, by go_num, by go_num, by simp; omega, by omega, oa, fun y hy => ?_, by omega, by omega, rd6.chg cha (fun b hb e => by have := (o6.at_ e).1; obtain ⟨_, _, _, _, _, hh⟩ := rd6; omega), cha'⟩
        rcases List.mem_append.1 hy with hy | hy
        · exact HG.out y hy
        · rw [List.mem_singleton.1 hy]; exact h64
      case measure => simp [intOf]; omega
/-- What a draw of a rule gives. -/
def RulePost (w : World) (lo hi g : Nat) (l : List Int) (p : Nat) (e : Ending) (w' : World) : Prop :=
  ∃ a b c q, e = .returned (.agg #[.int .i64 a, .int .i64 b, .int .i64 c]) ∧ (0 ≤ a ∧ a < 4) ∧ (0 ≤ b ∧ b < 4) ∧ (0 ≤ c ∧ c < 3) ∧ Rd w' lo hi g l q ∧ q ≤ p + 3 ∧ Chg (fun b => b = g) w w'
theorem Rd.set_ {w : World} {lo hi g : Nat} {l : List Int} {p : Nat} (h : Rd w lo hi g l p) {q : Addr} (u : Value) (hq : hi ≤ q.block ∧ q.block ≠ g) : Rd (w.setCell q u) lo hi g l p :=
  h.chg (S := fun b => b = q.block) ((Chg.refl (fun b => b = q.block) w).setCell (p := q) (.inl rfl) u) fun b hb e => by
    subst e
    rcases hb with hb | hb
    · omega
    · exact hq.2 hb
set_option maxHeartbeats 4000000 in
theorem l92Rule_any (l : List Int) (g p lo hi : Nat) (w : World) (h : Rd w lo hi g l p) (hp : p ≤ 1200) :
    Calls Try.prog 87 #[.pointer (some ⟨g, 0, none⟩)] w (RulePost w lo hi g l p) := by
  go_enter Try.func87, Try.ntmps87
  go_wp2_with fail
  have hrg := h.lt
  have hhi := h.hi_
  have rdA := h.alloc (.cells #[.int .i64 0, .int .i64 0, .int .i64 0] 68)
  have kl := Blk.new w 68 #[.int .i64 0, .int .i64 0, .int .i64 0]
  have chA := (Chg.refl (fun b => b = g) w).alloc (.cells #[.int .i64 0, .int .i64 0, .int .i64 0] 68)
  generalize w.alloc (.cells #[.int .i64 0, .int .i64 0, .int .i64 0] 68) = wA at *
  refine (pick_any _ _ _ _ _ _ 4 rdA (by omega)).mono ?_
  rintro e w1 ⟨v1, rfl, ⟨_, p1⟩, rd1, hc1⟩
  obtain ⟨p3, p4⟩ := p1 (by omega)
  clear p1
  replace kl := blk_chg kl hc1 (by omega)
  replace chA := chA.trans hc1 fun i _ e => e
  go_wp2_with fail
  refine (pick_any _ _ _ _ _ _ 4 rd1 (by omega)).mono ?_
  rintro e w2 ⟨v2, rfl, ⟨_, p1⟩, rd2, hc2⟩
  obtain ⟨p5, p6⟩ := p1 (by omega)
  clear p1
  replace kl := blk_chg kl hc2 (by omega)
  replace chA := chA.trans hc2 fun i _ e => e
  go_wp2_with fail
  refine (pick_any _ _ _ _ _ _ 3 rd2 (by omega)).mono ?_
  rintro e w3 ⟨v3, rfl, ⟨_, p1⟩, rd3, hc3⟩
  obtain ⟨p7, p8⟩ := p1 (by omega)
  clear p1
  replace kl := blk_chg kl hc3 (by omega)
  replace chA := chA.trans hc3 fun i _ e => e
  clear hc1 hc2 hc3 rd1 rd2 rdA
  have ckl := kl.cell
  have fkl := kl.frozen
  go_wp2_with fail
  have k4 := ((kl.set_ 0 (.int .i64 v1)).set_ 1 (.int .i64 v2)).set_ 2 (.int .i64 v3)
  simp only [List.setIfInBounds_toArray, List.set_cons_zero, List.set_cons_succ] at k4
  have ck4 := k4.cell
  exact bodyPost_ret (v := .agg #[.int .i64 v1, .int .i64 v2, .int .i64 v3]) (by simp [results, Try.results87, go_sem, ck4]) rfl ⟨v1, v2, v3, _, rfl, ⟨p3, p4⟩, ⟨p5, p6⟩, ⟨p7, p8⟩, ((rd3.set_ _ ⟨by dsimp only; omega, by dsimp only; omega⟩).set_ _ ⟨by dsimp only; omega, by dsimp only; omega⟩).set_ _ ⟨by dsimp only; omega, by dsimp only; omega⟩, by omega,
    ((chA.setCell (p := ⟨w.heap.size, 0, none⟩) (.inr (Nat.le_refl _)) _).setCell (p := ⟨w.heap.size, 1, none⟩) (.inr (Nat.le_refl _)) _).setCell (p := ⟨w.heap.size, 2, none⟩) (.inr (Nat.le_refl _)) _⟩
/-- What DrawKeepAll and DrawKeepGone give. -/
def KeepPost (w : World) (e : Ending) (w' : World) : Prop :=
  ∃ v ys a b c, e = .returned (.tuple #[v, .agg #[.int .i64 a, .int .i64 b, .int .i64 c]]) ∧ OwnF FSt 76 w' w.heap.size v ys ∧ ys.length ≤ 10 ∧ (∀ y ∈ ys, FSt.good y) ∧ ((0 ≤ a ∧ a < 4) ∧ (0 ≤ b ∧ b < 4) ∧ (0 ≤ c ∧ c < 3)) ∧ Below w.heap.size w w'
set_option maxHeartbeats 4000000 in
theorem dDrawKeepAll_any (l : List Int) (A : Option Addr) (n c : Nat) (w : World) (h : RSl RByte 1 w 0 w.heap.size l [.slice A n c]) :
    Calls Try.prog 44 #[.slice A n c] w (KeepPost w) := by
  go_enter Try.func44, Try.ntmps44
  go_wp2_with fail
  have hbw0 : Below w.heap.size w (w.alloc (.cells #[.int .i64 0, .int .i64 0, .int .i64 0] 68)) := below_alloc _ _
  have k0 : Blk (w.alloc (.cells #[.int .i64 0, .int .i64 0, .int .i64 0] 68)) (w.heap.size) 68 #[.int .i64 0, .int .i64 0, .int .i64 0] := by
    have hk := Blk.new w 68 #[.int .i64 0, .int .i64 0, .int .i64 0]
    exact hk
  have hsw0 : w.heap.size + 1 ≤ (w.alloc (.cells #[.int .i64 0, .int .i64 0, .int .i64 0] 68)).heap.size := by simp only [World.size_alloc]; omega
  generalize (w.alloc (.cells #[.int .i64 0, .int .i64 0, .int .i64 0] 68)) = w0 at *
  have ck0 := k0.cell
  have fk0 := k0.frozen
  refine (open_any l A n c w0 0 w.heap.size (sl_keep RByte.loc h hbw0 (Nat.le_refl _)) hbw0.size).mono ?_
  rintro e w1 ⟨g, rfl, hr, hg, hb1⟩
  replace k0 := blk_keep k0 hb1
  replace ck0 := k0.cell
  replace fk0 := k0.frozen
  replace hbw0 := below_below hbw0 hb1
  have hgl := hr.lt
  go_wp2_with fail
  refine (l92Stamps_any _ g 0 _ _ _ hr (by omega)).mono ?_
  rintro e w2 ⟨va, a, q, rfl, o2, l2, g2, hr2, hq, hc2⟩
  clear hr
  have hgw : w.heap.size < g := by omega
  replace hbw0 := below_chg hbw0 hc2 (fun i hi => by omega)
  replace k0 := blk_chg k0 hc2 (by omega)
  have G2 := Lib.hid g2; clear g2
  obtain ⟨A1, c1, rfl⟩ := o2.form
  have z2 := hc2.size
  have z1 := hb1.size
  go_wp2_with fail
  refine (l92Rule_any _ g q _ _ _ hr2 (by omega)).mono ?_
  rintro e w3 ⟨x, y, z, q3, rfl, hx, hy, hz, hr3, hq3, hc3⟩
  replace hbw0 := below_chg hbw0 hc3 (fun i hi => by omega)
  replace k0 := blk_chg k0 hc3 (by omega)
  replace ck0 := k0.cell
  replace fk0 := k0.frozen
  have o2' := o2.chg hc3 (fun b hb e => by have := (o2.at_ hb).1; omega)
  go_wp2_with fail
  have k4 := ((k0.set_ 0 (.int .i64 x)).set_ 1 (.int .i64 y)).set_ 2 (.int .i64 z)
  simp only [List.setIfInBounds_toArray, List.set_cons_zero, List.set_cons_succ] at k4
  have ck4 := k4.cell
  exact bodyPost_ret (v := .tuple #[.slice A1 a.length c1, .agg #[.int .i64 x, .int .i64 y, .int .i64 z]]) (by simp [results, Try.results44, go_sem, ck4]) rfl ⟨_, a, x, y, z, rfl, (((o2'.set_ _ (by dsimp only; omega)).set_ _ (by dsimp only; omega)).set_ _ (by dsimp only; omega)).base (by omega), l2, G2.out, ⟨hx, hy, hz⟩, ((hbw0.setCell (by simp) _).setCell (by simp) _).setCell (by simp) _⟩
set_option maxHeartbeats 4000000 in
theorem dDrawKeepGone_any (l : List Int) (A : Option Addr) (n c : Nat) (w : World) (h : RSl RByte 1 w 0 w.heap.size l [.slice A n c]) :
    Calls Try.prog 59 #[.slice A n c] w (KeepPost w) := by
  go_enter Try.func59, Try.ntmps59
  go_wp2_with fail
  have hbw0 : Below w.heap.size w (w.alloc (.cells #[.int .i64 0, .int .i64 0, .int .i64 0] 68)) := below_alloc _ _
  have k0 : Blk (w.alloc (.cells #[.int .i64 0, .int .i64 0, .int .i64 0] 68)) (w.heap.size) 68 #[.int .i64 0, .int .i64 0, .int .i64 0] := by
    have hk := Blk.new w 68 #[.int .i64 0, .int .i64 0, .int .i64 0]
    exact hk
  have hsw0 : w.heap.size + 1 ≤ (w.alloc (.cells #[.int .i64 0, .int .i64 0, .int .i64 0] 68)).heap.size := by simp only [World.size_alloc]; omega
  generalize (w.alloc (.cells #[.int .i64 0, .int .i64 0, .int .i64 0] 68)) = w0 at *
  have ck0 := k0.cell
  have fk0 := k0.frozen
  refine (open_any l A n c w0 0 w.heap.size (sl_keep RByte.loc h hbw0 (Nat.le_refl _)) hbw0.size).mono ?_
  rintro e w1 ⟨g, rfl, hr, hg, hb1⟩
  replace k0 := blk_keep k0 hb1
  replace ck0 := k0.cell
  replace fk0 := k0.frozen
  replace hbw0 := below_below hbw0 hb1
  have hgl := hr.lt
  go_wp2_with fail
  refine (l92Stamps_any _ g 0 _ _ _ hr (by omega)).mono ?_
  rintro e w2 ⟨va, a, q, rfl, o2, l2, g2, hr2, hq, hc2⟩
  clear hr
  have hgw : w.heap.size < g := by omega
  replace hbw0 := below_chg hbw0 hc2 (fun i hi => by omega)
  replace k0 := blk_chg k0 hc2 (by omega)
  have G2 := Lib.hid g2; clear g2
  obtain ⟨A1, c1, rfl⟩ := o2.form
  have z2 := hc2.size
  have z1 := hb1.size
  go_wp2_with fail
  refine (l92Rule_any _ g q _ _ _ hr2 (by omega)).mono ?_
  rintro e w3 ⟨x, y, z, q3, rfl, hx, hy, hz, hr3, hq3, hc3⟩
  replace hbw0 := below_chg hbw0 hc3 (fun i hi => by omega)
  replace k0 := blk_chg k0 hc3 (by omega)
  replace ck0 := k0.cell
  replace fk0 := k0.frozen
  have o2' := o2.chg hc3 (fun b hb e => by have := (o2.at_ hb).1; omega)
  go_wp2_with fail
  have k4 := ((k0.set_ 0 (.int .i64 x)).set_ 1 (.int .i64 y)).set_ 2 (.int .i64 z)
  simp only [List.setIfInBounds_toArray, List.set_cons_zero, List.set_cons_succ] at k4
  have ck4 := k4.cell
  exact bodyPost_ret (v := .tuple #[.slice A1 a.length c1, .agg #[.int .i64 x, .int .i64 y, .int .i64 z]]) (by simp [results, Try.results59, go_sem, ck4]) rfl ⟨_, a, x, y, z, rfl, (((o2'.set_ _ (by dsimp only; omega)).set_ _ (by dsimp only; omega)).set_ _ (by dsimp only; omega)).base (by omega), l2, G2.out, ⟨hx, hy, hz⟩, ((hbw0.setCell (by simp) _).setCell (by simp) _).setCell (by simp) _⟩
theorem KAllR_in64 {xs : List St} {a b c : Int} {r : List Int} (h : KAllR xs a b c r) : ∀ y ∈ r, In64 y := by
  rcases h with ⟨h, rfl⟩ | ⟨_, rfl⟩
  · exact sn_in64 h.1.in64 _
  · intro y hy; cases hy
theorem KGoneR_in64 {xs : List St} {a b c : Int} {r : List Int} (h : KGoneR xs a b c r) : ∀ y ∈ r, In64 y := by
  rcases h with ⟨h, rfl⟩ | ⟨_, rfl⟩
  · exact sn_in64 h.1.in64 _
  · intro y hy; cases hy
theorem KAllR_len {xs : List St} {a b c : Int} {r : List Int} (h : KAllR xs a b c r) : r.length ≤ xs.length := by
  rcases h with ⟨h, rfl⟩ | ⟨_, rfl⟩
  · rw [sn_len]
    have := List.length_filter_le (inAll xs a b c) (List.range xs.length)
    rw [List.length_range] at this
    exact this
  · exact Nat.zero_le _
theorem KGoneR_len {xs : List St} {a b c : Int} {r : List Int} (h : KGoneR xs a b c r) : r.length ≤ xs.length := by
  rcases h with ⟨h, rfl⟩ | ⟨_, rfl⟩
  · rw [sn_len]
    have := kG_len xs a b c
    omega
  · exact Nat.zero_le _
theorem KAllR.is {xs : List St} {a b c : Int} {r : List Int} (h : KAllR xs a b c r) (hp : stP xs) : r = sn xs (kA xs a b c) := by
  rcases h with ⟨_, h⟩ | ⟨h, _⟩
  · exact h
  · exact absurd hp h
theorem KGoneR.is {xs : List St} {a b c : Int} {r : List Int} (h : KGoneR xs a b c r) (hp : stP xs) : r = sn xs (kG xs a b c) := by
  rcases h with ⟨_, h⟩ | ⟨h, _⟩
  · exact h
  · exact absurd hp h
end Go.Proofs.Ytpdbohjgmghgkaa
