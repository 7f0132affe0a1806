


/- A ring under a lock: let. -/
import Derived.Test.YtdbeclnoaeiaeaaGd
import Derived.Test.YtdbeclnoaeiaeaaIns
import Derived.Test.YtdbeclnoaeiaeaaRgLt
namespace Go.Proofs.Ytdbeclnoaeiaeaa
open Go.RowKit Go.MuLone

theorem insG_split {y : Gr} : ∀ {xs : List Gr} {k : Nat}, (∀ z ∈ xs.take k, ¬ y.m < z.m) → (∀ x, xs[k]? = some x → y.m < x.m) → insG y xs = xs.take k ++ y :: xs.drop k
  | [], k, _, _ => by simp [insG]
  | x :: xs, 0, _, h2 => by
    show (if y.m < x.m then _ else _) = _
    rw [if_pos (h2 x rfl)]; rfl
  | x :: xs, k + 1, h1, h2 => by
    show (if y.m < x.m then _ else _) = _
    rw [if_neg (h1 x (by simp)), insG_split (xs := xs) (k := k) (fun z hz => h1 z (by simp [hz])) (fun z hz => h2 z (by simpa using hz))]; rfl
theorem hit_at {xs : List Gr} {m : Int} {k : Nat} {x : Gr} (hp : xs.Pairwise fun a b => a.m < b.m) (hh : ∃ y ∈ xs, y.m = m) (hk : xs[k]? = some x) (hlt : ∀ y ∈ xs.take k, y.m < m) (hx : ¬ x.m < m) : x.m = m := by
  obtain ⟨y, hy, hym⟩ := hh
  obtain ⟨j, hj⟩ := List.mem_iff_getElem?.1 hy
  rcases Nat.lt_trichotomy j k with h | h | h
  · have := hlt y (List.mem_of_getElem? (by rw [List.getElem?_take_of_lt h]; exact hj))
    omega
  · subst h
    rw [hj] at hk
    cases hk
    exact hym
  · have h1 := lt_of_some hj
    have := (List.pairwise_iff_getElem.1 hp) k j (by omega) h1 h
    have hjm : xs[j] = y := by rw [List.getElem?_eq_getElem h1] at hj; exact Option.some.inj hj
    have hkm : xs[k] = x := by rw [List.getElem?_eq_getElem (by omega)] at hk; exact Option.some.inj hk
    rw [hjm, hkm] at this
    omega

set_option maxHeartbeats 1000000 in
theorem let_no (r : Rg) (m from_ : Int) (g base : Nat) (w : World) (h : Gd w base g r) (hp : r.grs.Pairwise fun a b => a.m < b.m) (hh : ∃ y ∈ r.grs, y.m = m) (hl : r.grs.length ≤ 1048576) :
    Calls Try.prog 72 #[.pointer (some ⟨g, 0, none⟩), .int .i64 m, .int .i64 from_] w fun e w' => e = .returned (.bool false) ∧ Gd w' base g r ∧ Chg (fun b => base ≤ b) w w' := by
  have HP := Lib.hid hp; clear hp
  have HH := Lib.hid hh; clear hh
  obtain ⟨hbg, va, vb, k0, ho⟩ := h
  obtain ⟨A, c, rfl⟩ := ho.keys.form
  obtain ⟨B, d, rfl⟩ := ho.grs.form
  have c0 : w.cell? ⟨g, 0, none⟩ = some (.int .i32 0) := k0.cell 0
  have f0 := k0.frozen 0
  have n1 := own_blk_ne ho.keys k0 (by decide)
  have n2 := own_blk_ne ho.grs k0 (by decide)
  have hgl := k0.lt
  have o1 := ho.keys.set_ne (p := ⟨g, 0, none⟩) (.int .i32 1) (fun b hb he => n1 (by rw [hb, he]))
  have o2 := ho.grs.set_ne (p := ⟨g, 0, none⟩) (.int .i32 1) (fun b hb he => n2 (by rw [hb, he]))
  have ch1 : Chg (fun b => base ≤ b) w (w.setCell ⟨g, 0, none⟩ (.int .i32 1)) := (Chg.refl _ _).setCell (p := ⟨g, 0, none⟩) (.inl hbg) _
  go_enter_defers Try.func72, Try.ntmps72
  go_wp2_with (go_at_call 78; refine (lock_free muLib ⟨g, 0, none⟩ _ c0 f0).mono ?_; rintro e w' ⟨rfl, rfl⟩; replace k0 := k0.set_ 0 (.int .i32 1); simp only [List.setIfInBounds_toArray, List.set_cons_zero, List.set_cons_succ] at k0; clear c0 f0 ho; generalize w.setCell ⟨g, 0, none⟩ (.int .i32 1) = w1 at *; have ck0 := k0.cell; have fk0 := k0.frozen)
  have cg : w1.cell? ⟨g, 3, none⟩ = some (.slice B r.grs.length d) := k0.cell 3
  go_loopw [7] (fun i wr => ∃ k : Nat, k ≤ r.grs.length ∧ i = .int .i64 k ∧ (∀ y ∈ r.grs.take k, y.m < m) ∧ wr = w1) (fun i _ => r.grs.length - (intOf i).toNat)
  case atStart => exact ⟨0, Nat.zero_le _, rfl, fun y hy => (by simp at hy), rfl⟩
  case round =>
    obtain ⟨k, hk, rfl, hn, rfl⟩ := hrel
    have HN := Lib.hid hn; clear hn
    by_cases hlt : k < r.grs.length
    · obtain ⟨x, hxk⟩ := some_of_lt hlt
      have HX := Lib.hid hxk; clear hxk
      obtain ⟨gg, cc, hB⟩ := o2.some_ (by omega)
      simp only [Value.slice.injEq] at hB
      obtain ⟨rfl, -, rfl⟩ := hB
      have hc0 : wr.cell? ⟨gg, k * 3, none⟩ = some (.int .i64 x.m) := o2.cell (j := 0) HX.out rfl
      by_cases hp : x.m < m
      · have hnx : ∀ y ∈ r.grs.take (k + 1), y.m < m := by
          intro y hy
          rw [take_succ HX.out, List.mem_append] at hy
          rcases hy with hy | hy
          · exact HN.out y hy
          · rw [List.mem_singleton.1 hy]; exact hp
        have HNX := Lib.hid hnx; clear hnx
        go_wp2_with fail
        go_roundw
        case rel => first | exact ⟨k + 1, by omega, by go_num, HNX.out, trivial⟩ | ((repeat apply Exists.intro); refine ⟨?_, rfl⟩; exact ⟨k + 1, by omega, by go_num, HNX.out, trivial⟩)
        case measure => simp [intOf]; omega
      · have hxm := hit_at HP.out HH.out HX.out HN.out hp
        go_wp2_with fail
        refine leaves_cons (f := 79) (args := #[.pointer (some ⟨g, 0, none⟩)]) (by simp) (by simp [go_sem]) ?_
        refine (unlock_deferred muLib ⟨g, 0, none⟩ .returning _ ?_ ?_).mono ?_
        · exact k0.cell 0
        · exact k0.frozen 0
        rintro e u' w'' ⟨rfl, rfl, rfl⟩
        replace k0 := k0.set_ 0 (.int .i32 0)
        simp only [List.setIfInBounds_toArray, List.set_cons_zero, List.set_cons_succ] at k0
        exact ⟨_, results_tmp rfl _ _ _, rfl, ⟨hbg, _, _, k0, o1.set_ne _ (fun b hb he => n1 (by rw [hb, he])), o2.set_ne _ (fun b hb he => n2 (by rw [hb, he]))⟩, ch1.setCell (p := ⟨g, 0, none⟩) (.inl hbg) _⟩
    · obtain rfl : k = r.grs.length := by omega
      exfalso
      obtain ⟨y, hy, hym⟩ := HH.out
      have := HN.out y (by rw [List.take_length]; exact hy)
      omega
set_option maxHeartbeats 1000000 in
theorem let_yes (r : Rg) (m from_ : Int) (g base : Nat) (w : World) (h : Gd w base g r) (hh : ∀ y ∈ r.grs, ¬ y.m = m) (hl : r.grs.length ≤ 1048576) :
    Calls Try.prog 72 #[.pointer (some ⟨g, 0, none⟩), .int .i64 m, .int .i64 from_] w fun e w' => e = .returned (.bool true) ∧ Gd w' base g ⟨r.keys, insG ⟨m, from_, 0⟩ r.grs⟩ ∧ Chg (fun b => base ≤ b) w w' := by
  have HH := Lib.hid hh; clear hh
  obtain ⟨hbg, va, vb, k0, ho⟩ := h
  obtain ⟨A, c, rfl⟩ := ho.keys.form
  obtain ⟨B, d, rfl⟩ := ho.grs.form
  have c0 : w.cell? ⟨g, 0, none⟩ = some (.int .i32 0) := k0.cell 0
  have f0 := k0.frozen 0
  have n1 := own_blk_ne ho.keys k0 (by decide)
  have n2 := own_blk_ne ho.grs k0 (by decide)
  have hgl := k0.lt
  have o1 := ho.keys.set_ne (p := ⟨g, 0, none⟩) (.int .i32 1) (fun b hb he => n1 (by rw [hb, he]))
  have o2 := ho.grs.set_ne (p := ⟨g, 0, none⟩) (.int .i32 1) (fun b hb he => n2 (by rw [hb, he]))
  have ch1 : Chg (fun b => base ≤ b) w (w.setCell ⟨g, 0, none⟩ (.int .i32 1)) := (Chg.refl _ _).setCell (p := ⟨g, 0, none⟩) (.inl hbg) _
  go_enter_defers Try.func72, Try.ntmps72
  go_wp2_with (go_at_call 78; refine (lock_free muLib ⟨g, 0, none⟩ _ c0 f0).mono ?_; rintro e w' ⟨rfl, rfl⟩; replace k0 := k0.set_ 0 (.int .i32 1); simp only [List.setIfInBounds_toArray, List.set_cons_zero, List.set_cons_succ] at k0; clear c0 f0 ho; generalize w.setCell ⟨g, 0, none⟩ (.int .i32 1) = w1 at *; have ck0 := k0.cell; have fk0 := k0.frozen)
  have cg : w1.cell? ⟨g, 3, none⟩ = some (.slice B r.grs.length d) := k0.cell 3
  go_loopw [7] (fun i wr => ∃ k : Nat, k ≤ r.grs.length ∧ i = .int .i64 k ∧ (∀ y ∈ r.grs.take k, y.m < m) ∧ wr = w1) (fun i _ => r.grs.length - (intOf i).toNat)
  case atStart => exact ⟨0, Nat.zero_le _, rfl, fun y hy => (by simp at hy), rfl⟩
  case round =>
    obtain ⟨k, hk, rfl, hn, rfl⟩ := hrel
    have HN := Lib.hid hn; clear hn
    by_cases hlt : k < r.grs.length
    · obtain ⟨x, hxk⟩ := some_of_lt hlt
      have HX := Lib.hid hxk; clear hxk
      obtain ⟨gg, cc, hB⟩ := o2.some_ (by omega)
      simp only [Value.slice.injEq] at hB
      obtain ⟨rfl, -, rfl⟩ := hB
      have hc0 : wr.cell? ⟨gg, k * 3, none⟩ = some (.int .i64 x.m) := o2.cell (j := 0) HX.out rfl
      by_cases hp : x.m < m
      · have hnx : ∀ y ∈ r.grs.take (k + 1), y.m < m := by
          intro y hy
          rw [take_succ HX.out, List.mem_append] at hy
          rcases hy with hy | hy
          · exact HN.out y hy
          · rw [List.mem_singleton.1 hy]; exact hp
        have HNX := Lib.hid hnx; clear hnx
        go_wp2_with fail
        go_roundw
        case rel => first | exact ⟨k + 1, by omega, by go_num, HNX.out, trivial⟩ | ((repeat apply Exists.intro); refine ⟨?_, rfl⟩; exact ⟨k + 1, by omega, by go_num, HNX.out, trivial⟩)
        case measure => simp [intOf]; omega
      · have hxm : ¬ x.m = m := HH.out x (List.mem_of_getElem? HX.out)
        have t1 : (x.m == m) = false := beq_eq_false_iff_ne.2 hxm
        have t2 : decide (x.m < m) = false := by simp; omega
        have hsp : insG ⟨m, from_, 0⟩ r.grs = r.grs.take k ++ ⟨m, from_, 0⟩ :: r.grs.drop k := insG_split (fun z hz => by have := HN.out z hz; show ¬ m < z.m; omega) (fun z hz => by rw [HX.out] at hz; cases hz; show m < x.m; omega)
        have HS := Lib.hid hsp
        clear hsp
        go_wp2_with fail
        clear hc0
        have zg := k0.lt
        have ax := below_alloc wr (.cells #[.int .i64 m, .int .i64 from_, .int .i64 0] 37)
        refine (ins_any r.grs ⟨m, from_, 0⟩ k hk _ _ base wr.heap.size _ _ (o2.below ax) (Blk.new wr 37 _) rfl (fun e => by have := o2.at_ e; omega) (by simp only [World.size_alloc]; omega) hl).mono ?_
        rintro e w3 ⟨v3, rfl, o3, ch3, at3⟩
        rw [← HS.out] at o3
        clear HS
        generalize hL : insG ⟨m, from_, 0⟩ r.grs = L at o3
        have HL := Lib.hid hL; clear hL
        obtain ⟨A3, c3, rfl⟩ := o3.form
        replace k0 := blk_chg (blk_keep k0 ax) ch3 n2
        replace ck0 := k0.cell
        replace fk0 := k0.frozen
        have n3 := own_blk_ne o3 k0 (by decide)
        have hap := own_apart o1 o2 (by decide)
        replace o1 := (o1.below ax).chg ch3 fun b hb hs => hap b hb hs
        have ch4 := ((ch1.trans (Chg.of_below (S := fun _ => False) ax) (fun i _ hs => hs.elim)).trans ch3 fun i _ hs => (o2.at_ hs).1).setCell (p := ⟨g, 3, none⟩) (.inl hbg) (.slice A3 L.length c3)
        have o5 := o1.set_ne (p := ⟨g, 3, none⟩) (.slice A3 L.length c3) (fun b hb he => n1 (by rw [hb, he]))
        have o4 := o3.set_ne (p := ⟨g, 3, none⟩) (.slice A3 L.length c3) (fun b hb he => n3 (by rw [hb, he]))
        replace k0 := k0.set_ 3 (.slice A3 L.length c3)
        simp only [List.setIfInBounds_toArray, List.set_cons_zero, List.set_cons_succ] at k0
        clear at3 ax cg o2 o1 ch1
        go_wp2_with fail
        clear o3 ck0 fk0 ch3
        generalize w3.setCell ⟨g, 3, none⟩ (.slice A3 L.length c3) = w4 at *
        refine leaves_cons (f := 79) (args := #[.pointer (some ⟨g, 0, none⟩)]) (by simp) (by simp [go_sem]) ?_
        refine (unlock_deferred muLib ⟨g, 0, none⟩ .returning _ ?_ ?_).mono ?_
        · exact k0.cell 0
        · exact k0.frozen 0
        rintro e u' w'' ⟨rfl, rfl, rfl⟩
        replace k0 := k0.set_ 0 (.int .i32 0)
        simp only [List.setIfInBounds_toArray, List.set_cons_zero, List.set_cons_succ] at k0
        have hL := HL.out
        subst hL
        exact ⟨_, results_tmp rfl _ _ _, rfl, ⟨hbg, _, _, k0, o5.set_ne _ (fun b hb he => n1 (by rw [hb, he])), o4.set_ne _ (fun b hb he => n3 (by rw [hb, he]))⟩, ch4.setCell (p := ⟨g, 0, none⟩) (.inl hbg) _⟩
    · obtain rfl : k = r.grs.length := by omega
      have hsp : insG ⟨m, from_, 0⟩ r.grs = r.grs.take r.grs.length ++ ⟨m, from_, 0⟩ :: r.grs.drop r.grs.length := insG_split (fun z hz => by have := HN.out z hz; show ¬ m < z.m; omega) (fun z hz => by rw [List.getElem?_eq_none (Nat.le_refl _)] at hz; cases hz)
      have HS := Lib.hid hsp
      clear hsp
      go_wp2_with fail
      have zg := k0.lt
      have ax := below_alloc wr (.cells #[.int .i64 m, .int .i64 from_, .int .i64 0] 37)
      refine (ins_any r.grs ⟨m, from_, 0⟩ r.grs.length hk _ _ base wr.heap.size _ _ (o2.below ax) (Blk.new wr 37 _) rfl (fun e => by have := o2.at_ e; omega) (by simp only [World.size_alloc]; omega) hl).mono ?_
      rintro e w3 ⟨v3, rfl, o3, ch3, at3⟩
      rw [← HS.out] at o3
      clear HS
      generalize hL : insG ⟨m, from_, 0⟩ r.grs = L at o3
      have HL := Lib.hid hL; clear hL
      obtain ⟨A3, c3, rfl⟩ := o3.form
      replace k0 := blk_chg (blk_keep k0 ax) ch3 n2
      replace ck0 := k0.cell
      replace fk0 := k0.frozen
      have n3 := own_blk_ne o3 k0 (by decide)
      have hap := own_apart o1 o2 (by decide)
      replace o1 := (o1.below ax).chg ch3 fun b hb hs => hap b hb hs
      have ch4 := ((ch1.trans (Chg.of_below (S := fun _ => False) ax) (fun i _ hs => hs.elim)).trans ch3 fun i _ hs => (o2.at_ hs).1).setCell (p := ⟨g, 3, none⟩) (.inl hbg) (.slice A3 L.length c3)
      have o5 := o1.set_ne (p := ⟨g, 3, none⟩) (.slice A3 L.length c3) (fun b hb he => n1 (by rw [hb, he]))
      have o4 := o3.set_ne (p := ⟨g, 3, none⟩) (.slice A3 L.length c3) (fun b hb he => n3 (by rw [hb, he]))
      replace k0 := k0.set_ 3 (.slice A3 L.length c3)
      simp only [List.setIfInBounds_toArray, List.set_cons_zero, List.set_cons_succ] at k0
      clear at3 ax cg o2 o1 ch1
      go_wp2_with fail
      clear o3 ck0 fk0 ch3
      generalize w3.setCell ⟨g, 3, none⟩ (.slice A3 L.length c3) = w4 at *
      refine leaves_cons (f := 79) (args := #[.pointer (some ⟨g, 0, none⟩)]) (by simp) (by simp [go_sem]) ?_
      refine (unlock_deferred muLib ⟨g, 0, none⟩ .returning _ ?_ ?_).mono ?_
      · exact k0.cell 0
      · exact k0.frozen 0
      rintro e u' w'' ⟨rfl, rfl, rfl⟩
      replace k0 := k0.set_ 0 (.int .i32 0)
      simp only [List.setIfInBounds_toArray, List.set_cons_zero, List.set_cons_succ] at k0
      have hL := HL.out
      subst hL
      exact ⟨_, results_tmp rfl _ _ _, rfl, ⟨hbg, _, _, k0, o5.set_ne _ (fun b hb he => n1 (by rw [hb, he])), o4.set_ne _ (fun b hb he => n3 (by rw [hb, he]))⟩, ch4.setCell (p := ⟨g, 0, none⟩) (.inl hbg) _⟩
end Go.Proofs.Ytdbeclnoaeiaeaa
