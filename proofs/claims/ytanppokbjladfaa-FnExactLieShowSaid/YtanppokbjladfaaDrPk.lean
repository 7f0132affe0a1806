


/- Draws of packs. -/
import Derived.Test.YtanppokbjladfaaPkM
import Derived.Test.YtanppokbjladfaaEf
import Derived.Test.YtanppokbjladfaaDrI
namespace Go.Proofs.Ytanppokbjladfaa
open Go.RowKit

/-- A drawn number, whatever it is. -/
def SomePost (w : World) (lo hi g : Nat) (l : List Int) (p n : Nat) (e : Ending) (w' : World) : Prop := ∃ (m : Int) (q : Nat), e = .returned (.int .i64 m) ∧ (0 ≤ m ∧ m ≤ 100) ∧ Rd w' lo hi g l q ∧ q ≤ p + n ∧ Chg (fun b => b = g) w w'
set_option maxHeartbeats 2000000 in
theorem l91Key_any (l : List Int) (g p lo hi : Nat) (w : World) (hr : Rd w lo hi g l p) (hp : p ≤ 100000) :
    Calls Try.prog 126 #[.pointer (some ⟨g, 0, none⟩)] w (SomePost w lo hi g l p 3) := by
  have hrg := hr.lt
  go_enter Try.func126, Try.ntmps126
  go_wp2_with fail
  refine (pick_any _ _ _ _ _ _ 60 hr (by omega)).mono ?_
  rintro e w1 ⟨m, rfl, ⟨_, hm⟩, rd1, hc1⟩
  clear hm
  have z1 := hc1.size
  by_cases h0 : m = 0
  · have t1 : (m == 0) = true := beq_iff_eq.2 h0
    go_wp2_with fail
    have kl := Blk.new w1 3 #[.int .i64 0, .int .i64 100]
    have rdA := rd1.alloc (.cells #[.int .i64 0, .int .i64 100] 3)
    have chA := hc1.alloc (.cells #[.int .i64 0, .int .i64 100] 3)
    have hg1 := rd1.lt
    generalize w1.alloc (.cells #[.int .i64 0, .int .i64 100] 3) = w2 at *
    refine (pick_any _ _ _ _ _ _ 2 rdA (by omega)).mono ?_
    rintro e w3 ⟨m2, rfl, ⟨_, hm2⟩, rd3, hc3⟩
    obtain ⟨q1, q2⟩ := hm2 (by omega)
    clear hm2
    replace kl := blk_chg kl hc3 (by omega)
    obtain ⟨k, rfl⟩ := Int.eq_ofNat_of_zero_le q1
    have hd : ∃ d : Int, 0 ≤ d ∧ d ≤ 100 ∧ (#[Value.int .i64 0, .int .i64 100] : Array Value)[k]? = some (.int .i64 d) := by
      match k, q2 with
      | 0, _ => exact ⟨0, by omega, by omega, rfl⟩
      | 1, _ => exact ⟨100, by omega, by omega, rfl⟩
    obtain ⟨dd, d1, d2, d3⟩ := hd
    have ckl : w3.cell? ⟨w1.heap.size, k, none⟩ = some (.int .i64 dd) := by rw [kl.cell]; exact d3
    clear d3
    have hk2 : k < 2 := by omega
    go_wp2_with fail
    go_ret
    exact ⟨dd, _, rfl, ⟨d1, d2⟩, rd3, by omega, chA.trans hc3 fun i _ e => e⟩
  · have t1 : (m == 0) = false := beq_eq_false_iff_ne.2 h0
    go_wp2_with fail
    refine (pick_any _ _ _ _ _ _ 99 rd1 (by omega)).mono ?_
    rintro e w2 ⟨m1, rfl, ⟨_, hm1⟩, rd2, hc2⟩
    obtain ⟨q3, q4⟩ := hm1 (by omega)
    clear hm1
    have ch2 := hc1.trans hc2 fun i _ e => e
    go_wp2_with fail
    have kl := Blk.new w2 3 #[.int .i64 7, .int .i64 7, .int .i64 (1 + m1)]
    have rdA := rd2.alloc (.cells #[.int .i64 7, .int .i64 7, .int .i64 (1 + m1)] 3)
    have chA := ch2.alloc (.cells #[.int .i64 7, .int .i64 7, .int .i64 (1 + m1)] 3)
    have hg1 := rd2.lt
    generalize w2.alloc (.cells #[.int .i64 7, .int .i64 7, .int .i64 (1 + m1)] 3) = w3 at *
    refine (pick_any _ _ _ _ _ _ 3 rdA (by omega)).mono ?_
    rintro e w4 ⟨m2, rfl, ⟨_, hm2⟩, rd4, hc4⟩
    obtain ⟨q1, q2⟩ := hm2 (by omega)
    clear hm2
    replace kl := blk_chg kl hc4 (by omega)
    obtain ⟨k, rfl⟩ := Int.eq_ofNat_of_zero_le q1
    have hd : ∃ d : Int, 0 ≤ d ∧ d ≤ 100 ∧ (#[Value.int .i64 7, .int .i64 7, .int .i64 (1 + m1)] : Array Value)[k]? = some (.int .i64 d) := by
      match k, q2 with
      | 0, _ => exact ⟨7, by omega, by omega, rfl⟩
      | 1, _ => exact ⟨7, by omega, by omega, rfl⟩
      | 2, _ => exact ⟨1 + m1, by omega, by omega, rfl⟩
    obtain ⟨dd, d1, d2, d3⟩ := hd
    have ckl : w4.cell? ⟨w2.heap.size, k, none⟩ = some (.int .i64 dd) := by rw [kl.cell]; exact d3
    clear d3
    have hk2 : k < 3 := by omega
    go_wp2_with fail
    go_ret
    exact ⟨dd, _, rfl, ⟨d1, d2⟩, rd4, by omega, chA.trans hc4 fun i _ e => e⟩
/-- A drawn pack: its names are names. -/
def PkIs (x : Pk) : Prop := (∀ y ∈ x.its, 0 ≤ y.n ∧ y.n ≤ 999999999988) ∧ (1 ≤ x.its.length ∧ x.its.length ≤ 5) ∧ In64 x.no ∧ ∀ y ∈ x.its, FIt.good y
def PkPost (w : World) (lo hi g : Nat) (l : List Int) (p : Nat) (e : Ending) (w' : World) : Prop := ∃ (x : Pk) (v : Value) (m : Int) (q : Nat), e = .returned (.tuple #[.int .i64 m, .agg #[.int .i64 x.no, v]]) ∧ OwnF FIt 44 w' w.heap.size v x.its ∧ PkIs x ∧ Rd w' lo hi g l q ∧ q ≤ p + 100 ∧ Chg (fun b => b = g) w w'
theorem packP_is {key : Int} {p : Pk} (h : packP key p) (hg : ∀ x ∈ p.its, FIt.good x) : PkIs p := by
  refine ⟨fun y hy => ?_, by have := h.2.2.1; omega, by have := h.1; unfold In64; omega, hg⟩
  obtain ⟨q, _, e⟩ := h.2.2.2.1 y hy
  rw [← e]
  exact nameL_range
theorem own_ty_ne {x : World} {α : Type} {F : Flat α} {e t : TypeId} {base gb : Nat} {v : Value} {xs : List α} {cs : Array Value} (ho : OwnF F e x base v xs) (hk : Blk x gb t cs) (ht : t ≠ e) : ∀ b, v.ownBlock = some b → gb ≠ b := fun b hb e => by
  obtain ⟨_, ds, hd⟩ := own_ty ho hb
  subst e
  exact ht (blk_type hk hd)
theorem pk_body {no : Int} {its : List It} {k : Nat} {x : It} {s : ByteArray} (h : PkIs ⟨no, its⟩) (hx : its[k]? = some x) (hs : s.size ≤ 9) : PkIs ⟨no, its.set k ⟨x.n, s⟩⟩ := by
  have hm := List.mem_of_getElem? hx
  have key : ∀ y ∈ its.set k ⟨x.n, s⟩, y = ⟨x.n, s⟩ ∨ y ∈ its := fun y hy => by
    rcases List.mem_or_eq_of_mem_set hy with h | h
    · exact .inr h
    · exact .inl h
  refine ⟨fun y hy => ?_, by rw [List.length_set]; exact h.2.1, h.2.2.1, fun y hy => ?_⟩
  · rcases key y hy with rfl | hy
    · exact h.1 x hm
    · exact h.1 y hy
  · rcases key y hy with rfl | hy
    · have := (h.2.2.2 x hm).1
      exact ⟨this, by show s.size ≤ maxLen; unfold maxLen; omega⟩
    · exact h.2.2.2 y hy
theorem pk_more {no : Int} {its : List It} {k : Nat} {x : It} (h : PkIs ⟨no, its⟩) (hx : its[k]? = some x) (hl : its.length ≤ 4) : PkIs ⟨no, its ++ [x]⟩ := by
  have hm := List.mem_of_getElem? hx
  have key : ∀ y ∈ its ++ [x], y ∈ its := fun y hy => by
    rcases List.mem_append.1 hy with h | h
    · exact h
    · rw [List.mem_singleton.1 h]; exact hm
  exact ⟨fun y hy => h.1 y (key y hy), by rw [List.length_append]; simp; omega, h.2.2.1, fun y hy => h.2.2.2 y (key y hy)⟩
set_option maxHeartbeats 8000000 in
theorem l91Pack_any (l : List Int) (g p lo hi : Nat) (w : World) (hr : Rd w lo hi g l p) (hp : p ≤ 10000) :
    Calls Try.prog 86 #[.pointer (some ⟨g, 0, none⟩)] w (PkPost w lo hi g l p) := by
  have hrg := hr.lt
  have hhg := hr.hi_
  go_enter Try.func86, Try.ntmps86
  go_wp2_with fail
  have hbw0 : Below w.heap.size w (w.alloc (.cells #[.int .i64 0, .slice none 0 0] 37)) := below_alloc _ _
  have k0 : Blk (w.alloc (.cells #[.int .i64 0, .slice none 0 0] 37)) (w.heap.size) 37 #[.int .i64 0, .slice none 0 0] := by
    have hk := Blk.new w 37 #[.int .i64 0, .slice none 0 0]
    exact hk
  have hsw0 : w.heap.size + 1 ≤ (w.alloc (.cells #[.int .i64 0, .slice none 0 0] 37)).heap.size := by simp only [World.size_alloc]; omega
  generalize (w.alloc (.cells #[.int .i64 0, .slice none 0 0] 37)) = w0 at *
  have ck0 := k0.cell
  have fk0 := k0.frozen
  have rd0 := hr.chg (Chg.of_below (S := fun _ => False) hbw0) (fun _ _ h => h)
  have ch0 : Chg (fun b => b = g) w w0 := Chg.of_below hbw0
  refine (pick_any _ _ _ _ _ _ 9 rd0 (by omega)).mono ?_
  rintro e w1 ⟨m1, rfl, ⟨_, hm1⟩, rd1, hc1⟩
  obtain ⟨q1, q2⟩ := hm1 (by omega)
  clear hm1
  replace k0 := blk_chg k0 hc1 (by omega)
  replace ch0 := ch0.trans hc1 fun i _ e => e
  go_wp2_with fail
  refine (l91Some_any 4 (by omega) l g _ lo hi w1 rd1 (by omega)).mono ?_
  rintro e w2 ⟨v2, xs, q, rfl, o2, hxl, hx9, rd2, hq2, hc2⟩
  have z1 := ch0.size
  replace k0 := blk_chg k0 hc2 (by omega)
  replace ch0 := ch0.trans hc2 fun i _ e => e
  obtain ⟨A2, c2, rfl⟩ := o2.form
  have r2 := (o2.deep (fun x hx => by have := hx9 x hx; show x.size ≤ maxLen; unfold maxLen; omega) w1.heap.size).sl (Nat.le_refl _)
  go_wp2_with fail
  refine (specPackMake_some (1 + m1) 7 (by omega) (by unfold In64; omega) xs _ w2 _ _ (Nat.le_refl _) r2).mono ?_
  rintro e w3 ⟨pk, v3, ok, rfl, hok, o3, hg3, hno3, b3⟩
  clear r2 o2 hx9 hxl
  obtain ⟨A3, c3, rfl⟩ := o3.form
  replace k0 := blk_keep k0 b3
  replace ck0 := k0.cell
  replace fk0 := k0.frozen
  replace ch0 := ch0.trans (Chg.of_below (S := fun b => b = g) b3) fun i _ e => e
  have rd3 := rd2.chg (Chg.of_below (S := fun _ => False) b3) (fun _ _ h => h)
  have HOK := Lib.hid hok; clear hok
  have HG3 := Lib.hid hg3; clear hg3
  cases ok with
  | true =>
    have ax := below_alloc w3 (.cells #[.int .i64 pk.no, .slice A3 pk.its.length c3] 37)
    have hpk := packP_is (HOK.out rfl) HG3.out
    have hl4 := (HOK.out rfl).2.2.1.2
    obtain ⟨no, its⟩ := pk
    dsimp only at *
    have HPK := Lib.hid hpk; clear hpk HOK HG3 hno3 ax
    go_wp2_with fail
    have hbw4 : Below w3.heap.size w3 (w3.alloc (.cells #[.int .i64 no, .slice A3 its.length c3] 37)) := below_alloc _ _
    have b0 : Blk (w3.alloc (.cells #[.int .i64 no, .slice A3 its.length c3] 37)) (w3.heap.size) 37 #[.int .i64 no, .slice A3 its.length c3] := by
      have hk := Blk.new w3 37 #[.int .i64 no, .slice A3 its.length c3]
      exact hk
    have hsw4 : w3.heap.size + 1 ≤ (w3.alloc (.cells #[.int .i64 no, .slice A3 its.length c3] 37)).heap.size := by simp only [World.size_alloc]; omega
    generalize (w3.alloc (.cells #[.int .i64 no, .slice A3 its.length c3] 37)) = w4 at *
    have cb0 := b0.cell
    have fb0 := b0.frozen
    replace k0 := blk_keep k0 hbw4
    replace ck0 := k0.cell
    replace fk0 := k0.frozen
    replace o3 := o3.below hbw4
    replace ch0 := ch0.trans (Chg.of_below (S := fun b => b = g) hbw4) fun i _ e => e
    have rd4 := rd3.chg (Chg.of_below (S := fun _ => False) hbw4) (fun _ _ h => h)
    have hq4 : q ≤ p + 70 := by omega
    have zb : w.heap.size < w3.heap.size ∧ g < w3.heap.size := ⟨k0.lt |> fun _ => by have := b3.size; have := hc2.size; have := hc1.size; omega, by have := b3.size; have := hc2.size; have := hc1.size; omega⟩
    have zo : w.heap.size < w2.heap.size := by have := hc2.size; have := hc1.size; omega
    clear rd0 rd1 rd2 rd3 hc1 hc2 b3 hbw0 hbw4 hq2
    have hlen := HPK.out.2.1
    dsimp only at hlen
    refine (pick_any _ _ _ _ _ _ _ rd4 (by omega)).mono ?_
    rintro e w5 ⟨mk, rfl, ⟨_, hmk⟩, rd5, hc5⟩
    obtain ⟨mk1, mk2⟩ := hmk (by omega)
    clear hmk
    obtain ⟨kk, rfl⟩ := Int.eq_ofNat_of_zero_le mk1
    have hkk : kk < its.length := by omega
    replace k0 := blk_chg k0 hc5 (by omega)
    replace b0 := blk_chg b0 hc5 (by omega)
    have o5 := o3.chg hc5 (fun b hb e => by have := (o3.at_ hb).1; omega)
    replace ch0 := ch0.trans hc5 fun i _ e => e
    go_wp2_with fail
    refine (pick_any _ _ _ _ _ _ 8 rd5 (by omega)).mono ?_
    rintro e w6 ⟨m8, rfl, ⟨_, hm8⟩, rd6, hc6⟩
    clear hm8
    replace k0 := blk_chg k0 hc6 (by omega)
    replace b0 := blk_chg b0 hc6 (by omega)
    have o6 := o5.chg hc6 (fun b hb e => by have := (o5.at_ hb).1; omega)
    replace ch0 := ch0.trans hc6 fun i _ e => e
    clear rd4 rd5 hc5 hc6 o3 o5
    replace ck0 := k0.cell
    replace fk0 := k0.frozen
    replace cb0 := b0.cell
    replace fb0 := b0.frozen
    by_cases h0 : m8 = 0
    · have t1 : (m8 == 0) = true := beq_iff_eq.2 h0
      clear h0
      obtain ⟨gi, ci, hAc⟩ := o6.some_ (by omega)
      simp only [Value.slice.injEq] at hAc
      obtain ⟨rfl, -, rfl⟩ := hAc
      obtain ⟨it, hit⟩ := some_of_lt hkk
      have hgi := (o6.at_ (g := gi) rfl)
      go_wp2_with fail
      have f0 : w6.cell? ⟨w3.heap.size, 1, none⟩ = some (.slice (some ⟨gi, 0, none⟩) its.length c3) := cb0 1
      have hne : Nonempty (PastS w6 lo hi g l (q + 1 + 1 + 6) 99 99 99 w6.heap.size false 37 2 (fun _ => False) []) := st_some rd6 (by omega) none (fun b hb => by cases hb) (fun h => by cases h) (fun b hb => hb.elim) (fun b hb => by cases hb)
      have b0lt := b0.lt
      have k0lt := k0.lt
      have rdlt := rd6.lt
      have pastf : ∀ x : PastS w6 lo hi g l (q + 1 + 1 + 6) 99 99 99 w6.heap.size false 37 2 (fun _ => False) [], x.to.cell? ⟨w3.heap.size, 1, none⟩ = _ := fun x => pasts_cell f0 (by dsimp only; omega) (by dsimp only; omega) (fun h => h)
      refine region_stT (N := q + 1 + 1 + 6) (s := 99) (ia := 99) (ic := 99) (bk := w6.heap.size) (fx := false) (ty := 37) (n := 2) (S := fun _ => False) (pre := []) 6 (q + 1 + 1) [0, 1, 2, 3] [4, 5] (by kernel_rfl) (by kernel_rfl) (by kernel_rfl) rd6 (Nat.le_refl _) none (fun b hb => by cases hb) (fun h => by cases h) (fun b hb => hb.elim) (fun b hb => by cases hb) (.inl rfl) ?_
      simp only [pick, List.map, List.getD_cons_zero, List.getD_cons_succ]
      repeat (go_big_quiet_step (fail))
      refine wpQuiet_nil ?_
      clear pastf
      apply Exists.intro
      apply st_any (fun v x => ∃ b, v = .slice (some ⟨b, 0, none⟩) 4 4 ∧ x.free b ∧ Blk x.to b 9 #[.string ⟨#[122, 122]⟩, .string ⟨#[98, 46]⟩, .string ⟨#[]⟩, .string ⟨#[97, 98, 99, 46]⟩])
      · rfl
      · exact fun v x y ⟨b, e, hf, hk⟩ hl => ⟨b, e, hl.free hf, hl.blk hf hk⟩
      · intro x hF Qx hQ'
        have hQ := Lib.hid hQ'; clear hQ' hF
        go_wp2_with fail
        exact hQ.out _ _ (below_alloc _ _) ⟨_, rfl, x.free_new _ _, Blk.new _ _ _⟩
      intro u36
      simp only [Act.put, List.setIfInBounds_toArray, List.set_cons_zero, List.set_cons_succ]
      apply st_pick (fun v => ∃ s : ByteArray, v = .string s ∧ s.size ≤ 9)
      · rfl
      · intro x hF hN Qx hQ'
        have hQ := Lib.hid hQ'; clear hQ'
        obtain ⟨b, rfl, hf, hk⟩ := hF.1 (by kernel_rfl)
        clear hF
        have rl : RStrs x.to b x.to.heap.size [⟨#[122, 122]⟩, ⟨#[98, 46]⟩, ⟨#[]⟩, ⟨#[97, 98, 99, 46]⟩] [.slice (some ⟨b, 0, none⟩) 4 4] := (OwnF.deep (F := FStr) (own_blk (F := FStr) hk rfl (Nat.le_refl _) rfl (by simp [maxLen])) (short_good (by decide)) b).sl (Nat.le_refl _)
        go_wp2_with fail
        refine (of_any _ (by simp) _ _ _ _ _ _ _ _ x.to x.rd (by omega) rl).mono ?_
        rintro e wy ⟨s, hs, rfl, rdy, hcy⟩
        have hs9 := short9 (by decide) s hs
        clear hs
        go_wp2_with fail
        exact hQ.out _ _ rdy hcy ⟨s, rfl, hs9⟩
      intro u37
      simp only [Act.put, List.setIfInBounds_toArray, List.set_cons_zero, List.set_cons_succ]
      refine st_end fun x hF => ?_
      simp only [allF] at hF
      obtain ⟨⟨s, rfl, hs9⟩, -⟩ := hF
      have hcx : Chg (fun b => b = g) w6 x.to := x.ok.mono fun b hb h => by
        rcases h with h | h | ⟨_, h⟩
        · exact h
        · rcases x.bw b h with h | h <;> omega
        · exact h.elim
      have rd7 := x.rd
      have hxl := x.lim
      revert hxl; revert rd7; revert hcx
      generalize x.q = q7
      generalize x.to = w7
      intro hcx rd7 hxl
      clear x hne
      replace k0 := blk_chg k0 hcx (by omega)
      replace b0 := blk_chg b0 hcx (by omega)
      have o7 := o6.chg hcx (fun b hb e => by have := (o6.at_ hb).1; omega)
      replace ch0 := ch0.trans hcx fun i _ e => e
      have hfz := o7.frozen rfl
      have cold : w7.cell? ⟨gi, kk * 2 + 1, none⟩ = some (.string it.b) := o7.cell (j := 1) hit rfl
      simp only [List.drop]
      go_wp2_with fail
      have o8 := o7.put (i := kk) (j := 1) (x := it) (y := ⟨it.n, s⟩) (u := .string s) hit (by decide) rfl
      have hgb := own_ty_ne o7 b0 (by decide)
      have hgk := own_ty_ne o7 k0 (by decide)
      replace k0 := blk_ne k0 (p := ⟨gi, kk * 2 + 1, none⟩) (.string s) (by dsimp only; exact fun e => hgk _ rfl e)
      replace b0 := blk_ne b0 (p := ⟨gi, kk * 2 + 1, none⟩) (.string s) (by dsimp only; exact fun e => hgb _ rfl e)
      replace ch0 := ch0.setCell (p := ⟨gi, kk * 2 + 1, none⟩) (.inr (by dsimp only; omega)) (.string s)
      have rd8 := rd7.set_ (q := ⟨gi, kk * 2 + 1, none⟩) (.string s) ⟨by dsimp only; omega, by dsimp only; omega⟩
      have hw8 : w7.heap.size ≤ (w7.setCell ⟨gi, kk * 2 + 1, none⟩ (.string s)).heap.size := by simp
      have z7 := hcx.size
      have HP2 : Hid (PkIs ⟨no, its.set kk ⟨it.n, s⟩⟩) := Lib.hid (pk_body HPK.out hit hs9)
      have esz : FIt.sz = 2 := rfl
      rw [esz] at o8
      revert hw8; revert rd8; revert ch0; revert b0; revert k0; revert o8
      generalize w7.setCell ⟨gi, kk * 2 + 1, none⟩ (.string s) = w8
      intro o8 k0 b0 ch0 rd8 hw8
      replace ck0 := k0.cell
      replace fk0 := k0.frozen
      replace cb0 := b0.cell
      replace fb0 := b0.frozen
      clear o6 o7 rd6 rd7 hcx cold hfz
      go_wp2_with fail
      have f0 := cb0 0
      have f1 := cb0 1
      have past0 := past_cell f0
      have past1 := past_cell f1
      refine region_pastT 3 [0, 1, 2] [] (by kernel_rfl) (by kernel_rfl) (by kernel_rfl) ?_
      simp only [pick, List.map, List.getD_cons_zero, List.getD_cons_succ]
      repeat (go_big_quiet_step (fail))
      refine wpQuiet_nil ?_
      clear past0 past1
      apply Exists.intro
      refine past_end ?_
      intro wz hbz xx hxx hF
      dsimp only [allF] at hF
      try rw [hxx] at hF
      clear hxx xx
      simp only [List.drop]
      clear f0 f1 hF
      replace k0 := blk_keep k0 hbz
      replace ck0 := k0.cell
      replace fk0 := k0.frozen
      have rdz := rd8.chg (Chg.of_below (S := fun _ => False) hbz) (fun _ _ h => h)
      have chz := ch0.trans (Chg.of_below (S := fun b => b = g) hbz) fun i _ e => e
      have oz := o8.below hbz
      go_wp2_with fail
      have k4 := (k0.set_ 0 (.int .i64 no)).set_ 1 (.slice (some ⟨gi, 0, none⟩) its.length c3)
      simp only [List.setIfInBounds_toArray, List.set_cons_zero, List.set_cons_succ] at k4
      have ck4 := k4.cell
      exact bodyPost_ret (v := .tuple #[.int .i64 7, .agg #[.int .i64 no, .slice (some ⟨gi, 0, none⟩) its.length c3]]) (by simp [results, Try.results86, go_sem, ck4]) rfl ⟨⟨no, its.set kk ⟨it.n, s⟩⟩, _, _, _, rfl, ((oz.set_ _ (by dsimp only; omega)).set_ _ (by dsimp only; omega)).base (by omega), HP2.out, (rdz.set_ _ ⟨by dsimp only; omega, by dsimp only; omega⟩).set_ _ ⟨by dsimp only; omega, by dsimp only; omega⟩, by omega, (chz.setCell (p := ⟨w.heap.size, 0, none⟩) (.inr (Nat.le_refl _)) _).setCell (p := ⟨w.heap.size, 1, none⟩) (.inr (Nat.le_refl _)) _⟩
    · have t1 : (m8 == 0) = false := beq_eq_false_iff_ne.2 h0
      by_cases h1 : m8 = 1
      · have t2 : (m8 == 1) = true := beq_iff_eq.2 h1
        clear h0 h1
        go_wp2_with fail
        have f0 : w6.cell? ⟨w3.heap.size, 0, none⟩ = some (.int .i64 no) := cb0 0
        have f1 : w6.cell? ⟨w3.heap.size, 1, none⟩ = some (.slice A3 its.length c3) := cb0 1
        refine region_efT 1 37 (fun b => b = g) [] 4 [0] [1, 3, 2] (by kernel_rfl) (by kernel_rfl) (by kernel_rfl) ?_
        simp only [pick, List.map, List.getD_cons_zero, List.getD_cons_succ]
        repeat (go_big_quiet_step (fail))
        refine wpQuiet_nil ?_
        apply Exists.intro
        apply ef_eff (fun v y => y.done = true ∧ ∃ (d : Int) (q7 : Nat), v = .int .i64 d ∧ q7 ≤ q + 1 + 1 + 3 ∧ Rd y.to lo hi g l q7)
        · rfl
        · rfl
        · exact fun j hj => (by cases hj)
        · exact fun v x y ⟨hd, d, q7, e, hn, ht⟩ hl => ⟨(hl.from_ hd).1, d, q7, e, hn, ht.chg (Chg.of_below (S := fun _ => False) (hl.from_ hd).2) (fun _ _ h => h)⟩
        · intro y _ hdn Qx hQ'
          have hQ := Lib.hid hQ'; clear hQ'
          have rdy := rd6.chg (Chg.of_below (S := fun _ => False) (y.till hdn)) (fun _ _ h => h)
          go_wp2_with fail
          refine (l91Key_any l g _ lo hi y.to rdy (by omega)).mono ?_
          rintro e w2 ⟨d, q7, rfl, -, rdz, hq7, hc⟩
          go_wp2_with fail
          exact hQ.out _ _ (hc.mono fun c _ h => .inl h) ⟨rfl, d, q7, rfl, hq7, rdz⟩
        intro u43
        simp only [Act.put, List.setIfInBounds_toArray, List.set_cons_zero, List.set_cons_succ]
        apply ef_any (fun v y => ∃ d : Int, v = .int .i64 d)
        · rfl
        · exact fun v x y h _ => h
        · intro y hF _ Qx hQ'
          have hQ := Lib.hid hQ'; clear hQ'
          obtain ⟨-, d, -, rfl, -, -⟩ := hF.1 (by kernel_rfl)
          clear hF
          go_wp2_with fail
          exact hQ.out _ _ (Below.refl _ _) ⟨d, rfl⟩
        intro u2
        simp only [Act.put, List.setIfInBounds_toArray, List.set_cons_zero, List.set_cons_succ]
        apply ef_fix (.agg #[.int .i64 no, .slice A3 its.length c3])
        · intro y hF _ Qx hQ'
          have hQ := Lib.hid hQ'; clear hQ'; clear hF
          have ca := paste_cell f0 (by dsimp only; omega) y
          have cb := paste_cell f1 (by dsimp only; omega) y
          go_wp2_with fail
          exact hQ.out _ (Below.refl _ _)
        simp only [Act.put, List.setIfInBounds_toArray, List.set_cons_zero, List.set_cons_succ]
        refine ef_end fun y hF => ?_
        simp only [allF] at hF
        obtain ⟨⟨d, rfl⟩, ⟨-, d', q7, rfl, hq7, rd7⟩, -⟩ := hF
        have hcx : Chg (fun b => b = g) w6 y.to := y.ok.mono fun b hb h => h.2
        revert rd7; revert hcx
        generalize y.to = w7
        intro hcx rd7
        clear y
        replace k0 := blk_chg k0 hcx (by omega)
        have o7 := o6.chg hcx (fun b hb e => by have := (o6.at_ hb).1; omega)
        replace ch0 := ch0.trans hcx fun i _ e => e
        replace ck0 := k0.cell
        replace fk0 := k0.frozen
        simp only [List.drop]
        clear cb0 fb0 f0 f1
        go_wp2_with fail
        have k4 := (k0.set_ 0 (.int .i64 no)).set_ 1 (.slice A3 its.length c3)
        simp only [List.setIfInBounds_toArray, List.set_cons_zero, List.set_cons_succ] at k4
        have ck4 := k4.cell
        exact bodyPost_ret (v := .tuple #[.int .i64 d, .agg #[.int .i64 no, .slice A3 its.length c3]]) (by simp [results, Try.results86, go_sem, ck4]) rfl ⟨⟨no, its⟩, _, _, _, rfl, ((o7.set_ _ (by dsimp only; omega)).set_ _ (by dsimp only; omega)).base (by omega), HPK.out, (rd7.set_ _ ⟨by dsimp only; omega, by dsimp only; omega⟩).set_ _ ⟨by dsimp only; omega, by dsimp only; omega⟩, by omega, (ch0.setCell (p := ⟨w.heap.size, 0, none⟩) (.inr (Nat.le_refl _)) _).setCell (p := ⟨w.heap.size, 1, none⟩) (.inr (Nat.le_refl _)) _⟩
      · have t2 : (m8 == 1) = false := beq_eq_false_iff_ne.2 h1
        by_cases h2 : m8 = 2
        · have t3 : (m8 == 2) = true := beq_iff_eq.2 h2
          clear h0 h1 h2
          go_wp2_with fail
          refine (pick_any _ _ _ _ _ _ 3 rd6 (by omega)).mono ?_
          rintro e w7 ⟨m3, rfl, ⟨_, hm3⟩, rd7, hc7⟩
          clear hm3
          replace k0 := blk_chg k0 hc7 (by omega)
          replace b0 := blk_chg b0 hc7 (by omega)
          have o7 := o6.chg hc7 (fun b hb e => by have := (o6.at_ hb).1; omega)
          replace ch0 := ch0.trans hc7 fun i _ e => e
          replace ck0 := k0.cell
          replace fk0 := k0.frozen
          replace cb0 := b0.cell
          replace fb0 := b0.frozen
          clear rd6 hc7 o6
          by_cases h3 : m3 = 0
          · have t4 : (m3 == 0) = true := beq_iff_eq.2 h3
            clear h3
            obtain ⟨gi, ci, hAc⟩ := o7.some_ (by omega)
            simp only [Value.slice.injEq] at hAc
            obtain ⟨rfl, -, rfl⟩ := hAc
            obtain ⟨it, hit⟩ := some_of_lt hkk
            have hgi := (o7.at_ (g := gi) rfl)
            go_wp2_with fail
            have f1 : w7.cell? ⟨w3.heap.size, 1, none⟩ = some (.slice (some ⟨gi, 0, none⟩) its.length c3) := cb0 1
            have hgb := own_ty_ne o7 b0 (by decide)
            have past1 : ∀ y : PastE w7 8 44 (fun b => b = gi) [6, 7], _ := paste_cell f1 (by dsimp only; exact fun e => hgb _ rfl e)
            refine region_efT 8 44 (fun b => b = gi) [6, 7] 9 [0, 1, 2, 3, 4, 5] [6, 7, 8] (by kernel_rfl) (by kernel_rfl) (by kernel_rfl) ?_
            simp only [pick, List.map, List.getD_cons_zero, List.getD_cons_succ]
            repeat (go_big_quiet_step (fail))
            refine wpQuiet_nil ?_
            clear past1
            apply Exists.intro
            apply ef_fix (.agg #[.int .i64 it.n, .string it.b])
            · intro y hF hp Qx hQ'
              have hQ := Lib.hid hQ'; clear hQ'; clear hF
              have oy := o7.below (y.till (hp (by decide)))
              have ca : y.to.cell? ⟨gi, kk * 2, none⟩ = some (.int .i64 it.n) := oy.cell (j := 0) hit rfl
              have cb : y.to.cell? ⟨gi, kk * 2 + 1, none⟩ = some (.string it.b) := oy.cell (j := 1) hit rfl
              go_wp2_with fail
              exact hQ.out _ (Below.refl _ _)
            simp only [Act.put, List.setIfInBounds_toArray, List.set_cons_zero, List.set_cons_succ]
            apply ef_any (fun v x => x.done = false → ∃ b, v = .slice (some ⟨b, 0, none⟩) 1 1 ∧ Blk x.to b 44 #[.int .i64 it.n, .string it.b])
            · rfl
            · exact fun v x y h hl hd => by
                obtain ⟨b, e, hk⟩ := h (hl.till hd).1
                exact ⟨b, e, blk_keep hk (hl.till hd).2⟩
            · intro x _ _ Qx hQ'
              have hQ := Lib.hid hQ'; clear hQ'
              go_wp2_with fail
              exact hQ.out _ _ (below_alloc _ _) fun _ => ⟨_, rfl, Blk.new _ _ _⟩
            intro u57
            simp only [Act.put, List.setIfInBounds_toArray, List.set_cons_zero, List.set_cons_succ]
            apply ef_eff (fun v x => x.done = true ∧ ∃ A c, v = .slice A (its.length + 1) c ∧ OwnF FIt 44 x.to w2.heap.size (.slice A (its.length + 1) c) (its ++ [it]))
            · rfl
            · rfl
            · intro j hj
              rcases List.mem_cons.1 hj with rfl | hj
              · exact behind_of 9 _ _ (by kernel_rfl)
              · obtain rfl := List.mem_singleton.1 hj
                exact behind_of 9 _ _ (by kernel_rfl)
            · exact fun v x y ⟨hd, A, c, e, ho⟩ hl => ⟨(hl.from_ hd).1, A, c, e, ho.below (hl.from_ hd).2⟩
            · intro x hF hdn Qx hQ'
              have hQ := Lib.hid hQ'; clear hQ'
              obtain ⟨b, rfl, hkb⟩ := hF.1 (by kernel_rfl) hdn
              clear hF
              have hO := o7.below (x.till hdn)
              have hzz := x.ok.size
              refine app_flatB (F := FIt) rfl (.tmp 51) (.tmp 57) 35 rfl elem_it it rfl hO rfl hkb rfl (by omega) (by omega) ?_
              intro v8 w8 o8 ch8 at8
              refine wpList_nil ?_
              obtain ⟨A8, c8, rfl⟩ := o8.form
              simp only [List.length_append, List.length_cons, List.length_nil, Nat.zero_add] at o8
              refine hQ.out _ _ (ch8.mono fun b _ hb => .inl (by cases hb; rfl)) ⟨rfl, A8, c8, ?_, o8⟩
              simp
            intro u58
            simp only [Act.put, List.setIfInBounds_toArray, List.set_cons_zero, List.set_cons_succ]
            refine ef_end fun y hF => ?_
            simp only [allF] at hF
            obtain ⟨⟨-, A8, c8, rfl, o8⟩, -⟩ := hF
            have hcx : Chg (fun b => b = gi) w7 y.to := y.ok.mono fun b hb h => h.2
            revert o8; revert hcx
            generalize y.to = w8
            intro hcx o8
            clear y
            have hgk := own_ty_ne o7 k0 (by decide)
            replace k0 := blk_chg k0 hcx (fun e => hgk _ rfl e)
            replace b0 := blk_chg b0 hcx (fun e => hgb _ rfl e)
            have rd8 := rd7.chg hcx (fun b hb e => by have e' : b = gi := e; have := rd7.lt; have := rd7.hi_; rcases hb with hb | hb <;> omega)
            replace ch0 := ch0.trans hcx fun i hi' e => by have e' : i = gi := e; exfalso; omega
            replace ck0 := k0.cell
            replace fk0 := k0.frozen
            replace cb0 := b0.cell
            replace fb0 := b0.frozen
            have z8 := hcx.size
            clear f1 rd7 hcx o7
            simp only [List.drop]
            go_wp2_with fail
            have HP2 : Hid (PkIs ⟨no, its ++ [it]⟩) := Lib.hid (pk_more HPK.out hit hl4)
            have hgo := own_ty_ne o8 b0 (by decide)
            have o9 := o8.chg (S := fun b => b = w3.heap.size) ((Chg.refl (fun b => b = w3.heap.size) w8).setCell (p := ⟨w3.heap.size, 1, none⟩) (.inl rfl) (.slice A8 (its.length + 1) c8)) (fun b hb e => hgo b hb e.symm)
            have b9 := b0.set_ 1 (.slice A8 (its.length + 1) c8)
            simp only [List.setIfInBounds_toArray, List.set_cons_zero, List.set_cons_succ] at b9
            have k9 := blk_ne k0 (p := ⟨w3.heap.size, 1, none⟩) (.slice A8 (its.length + 1) c8) (by dsimp only; omega)
            have rd9 := rd8.set_ (q := ⟨w3.heap.size, 1, none⟩) (.slice A8 (its.length + 1) c8) ⟨by dsimp only; omega, by dsimp only; omega⟩
            have ch9 := ch0.setCell (p := ⟨w3.heap.size, 1, none⟩) (.inr (by dsimp only; omega)) (.slice A8 (its.length + 1) c8)
            have hw9 : w8.heap.size ≤ (w8.setCell ⟨w3.heap.size, 1, none⟩ (.slice A8 (its.length + 1) c8)).heap.size := by simp
            clear k0 b0 ck0 fk0 cb0 fb0 rd8 ch0 o8 hgo hgk hgb
            revert hw9; revert ch9; revert rd9; revert k9; revert b9; revert o9
            generalize w8.setCell ⟨w3.heap.size, 1, none⟩ (.slice A8 (its.length + 1) c8) = w9
            intro o9 b0 k0 rd9 ch0 hw9
            have ck0 := k0.cell
            have fk0 := k0.frozen
            have cb0 := b0.cell
            have fb0 := b0.frozen
            have f0 := cb0 0
            have f1 := cb0 1
            have past0 := past_cell f0
            have past1 := past_cell f1
            refine region_pastT 3 [0, 1, 2] [] (by kernel_rfl) (by kernel_rfl) (by kernel_rfl) ?_
            simp only [pick, List.map, List.getD_cons_zero, List.getD_cons_succ]
            repeat (go_big_quiet_step (fail))
            refine wpQuiet_nil ?_
            clear past0 past1
            apply Exists.intro
            refine past_end ?_
            intro wz hbz xx hxx hF
            dsimp only [allF] at hF
            try rw [hxx] at hF
            clear hxx xx
            simp only [List.drop]
            clear f0 f1 hF
            replace k0 := blk_keep k0 hbz
            replace ck0 := k0.cell
            replace fk0 := k0.frozen
            have rdz := rd9.chg (Chg.of_below (S := fun _ => False) hbz) (fun _ _ h => h)
            have chz := ch0.trans (Chg.of_below (S := fun b => b = g) hbz) fun i _ e => e
            have oz := o9.below hbz
            go_wp2_with fail
            have k4 := (k0.set_ 0 (.int .i64 no)).set_ 1 (.slice A8 (its.length + 1) c8)
            simp only [List.setIfInBounds_toArray, List.set_cons_zero, List.set_cons_succ] at k4
            have ck4 := k4.cell
            exact bodyPost_ret (v := .tuple #[.int .i64 7, .agg #[.int .i64 no, .slice A8 (its.length + 1) c8]]) (by simp [results, Try.results86, go_sem, ck4]) rfl ⟨⟨no, its ++ [it]⟩, _, _, _, rfl, ((oz.set_ _ (by dsimp only; omega)).set_ _ (by dsimp only; omega)).base (by omega), HP2.out, (rdz.set_ _ ⟨by dsimp only; omega, by dsimp only; omega⟩).set_ _ ⟨by dsimp only; omega, by dsimp only; omega⟩, by omega, (chz.setCell (p := ⟨w.heap.size, 0, none⟩) (.inr (Nat.le_refl _)) _).setCell (p := ⟨w.heap.size, 1, none⟩) (.inr (Nat.le_refl _)) _⟩
          · have t4 : (m3 == 0) = false := beq_eq_false_iff_ne.2 h3
            clear h3
            go_wp2_with fail
            have f0 := cb0 0
            have f1 := cb0 1
            have past0 := past_cell f0
            have past1 := past_cell f1
            refine region_pastT 3 [0, 1, 2] [] (by kernel_rfl) (by kernel_rfl) (by kernel_rfl) ?_
            simp only [pick, List.map, List.getD_cons_zero, List.getD_cons_succ]
            repeat (go_big_quiet_step (fail))
            refine wpQuiet_nil ?_
            clear past0 past1
            apply Exists.intro
            refine past_end ?_
            intro wz hbz xx hxx hF
            dsimp only [allF] at hF
            try rw [hxx] at hF
            clear hxx xx
            simp only [List.drop]
            clear f0 f1 hF
            replace k0 := blk_keep k0 hbz
            replace ck0 := k0.cell
            replace fk0 := k0.frozen
            have rdz := rd7.chg (Chg.of_below (S := fun _ => False) hbz) (fun _ _ h => h)
            have chz := ch0.trans (Chg.of_below (S := fun b => b = g) hbz) fun i _ e => e
            have oz := o7.below hbz
            go_wp2_with fail
            have k4 := (k0.set_ 0 (.int .i64 no)).set_ 1 (.slice A3 its.length c3)
            simp only [List.setIfInBounds_toArray, List.set_cons_zero, List.set_cons_succ] at k4
            have ck4 := k4.cell
            exact bodyPost_ret (v := .tuple #[.int .i64 7, .agg #[.int .i64 no, .slice A3 its.length c3]]) (by simp [results, Try.results86, go_sem, ck4]) rfl ⟨⟨no, its⟩, _, _, _, rfl, ((oz.set_ _ (by dsimp only; omega)).set_ _ (by dsimp only; omega)).base (by omega), HPK.out, (rdz.set_ _ ⟨by dsimp only; omega, by dsimp only; omega⟩).set_ _ ⟨by dsimp only; omega, by dsimp only; omega⟩, by omega, (chz.setCell (p := ⟨w.heap.size, 0, none⟩) (.inr (Nat.le_refl _)) _).setCell (p := ⟨w.heap.size, 1, none⟩) (.inr (Nat.le_refl _)) _⟩
        · have t3 : (m8 == 2) = false := beq_eq_false_iff_ne.2 h2
          clear h0 h1 h2
          go_wp2_with fail
          have f0 := cb0 0
          have f1 := cb0 1
          have past0 := past_cell f0
          have past1 := past_cell f1
          refine region_pastT 3 [0, 1, 2] [] (by kernel_rfl) (by kernel_rfl) (by kernel_rfl) ?_
          simp only [pick, List.map, List.getD_cons_zero, List.getD_cons_succ]
          repeat (go_big_quiet_step (fail))
          refine wpQuiet_nil ?_
          clear past0 past1
          apply Exists.intro
          refine past_end ?_
          intro wz hbz xx hxx hF
          dsimp only [allF] at hF
          try rw [hxx] at hF
          clear hxx xx
          simp only [List.drop]
          clear f0 f1 hF
          replace k0 := blk_keep k0 hbz
          replace ck0 := k0.cell
          replace fk0 := k0.frozen
          have rdz := rd6.chg (Chg.of_below (S := fun _ => False) hbz) (fun _ _ h => h)
          have chz := ch0.trans (Chg.of_below (S := fun b => b = g) hbz) fun i _ e => e
          have oz := o6.below hbz
          go_wp2_with fail
          have k4 := (k0.set_ 0 (.int .i64 no)).set_ 1 (.slice A3 its.length c3)
          simp only [List.setIfInBounds_toArray, List.set_cons_zero, List.set_cons_succ] at k4
          have ck4 := k4.cell
          exact bodyPost_ret (v := .tuple #[.int .i64 7, .agg #[.int .i64 no, .slice A3 its.length c3]]) (by simp [results, Try.results86, go_sem, ck4]) rfl ⟨⟨no, its⟩, _, _, _, rfl, ((oz.set_ _ (by dsimp only; omega)).set_ _ (by dsimp only; omega)).base (by omega), HPK.out, (rdz.set_ _ ⟨by dsimp only; omega, by dsimp only; omega⟩).set_ _ ⟨by dsimp only; omega, by dsimp only; omega⟩, by omega, (chz.setCell (p := ⟨w.heap.size, 0, none⟩) (.inr (Nat.le_refl _)) _).setCell (p := ⟨w.heap.size, 1, none⟩) (.inr (Nat.le_refl _)) _⟩
  | false =>
    have zo : w.heap.size < w2.heap.size := by have := hc2.size; have := hc1.size; omega
    have z3 := b3.size
    have zb : w.heap.size < w3.heap.size ∧ g < w3.heap.size := by omega
    clear HOK HG3
    have ax := below_alloc w3 (.cells #[.int .i64 pk.no, .slice A3 pk.its.length c3] 37)
    have kb := Blk.new w3 37 #[.int .i64 pk.no, .slice A3 pk.its.length c3]
    have hsA : (w3.alloc (.cells #[.int .i64 pk.no, .slice A3 pk.its.length c3] 37)).heap.size = w3.heap.size + 1 := by simp
    go_wp2_with fail
    revert hsA; revert kb; revert ax
    generalize w3.alloc (.cells #[.int .i64 pk.no, .slice A3 pk.its.length c3] 37) = wA
    intro ax kb hsA
    rw [← hsA]
    have rl : RStrs (wA.alloc (.cells #[.string ⟨#[97, 98, 99]⟩, .string ⟨#[98]⟩] 9)) wA.heap.size (wA.alloc (.cells #[.string ⟨#[97, 98, 99]⟩, .string ⟨#[98]⟩] 9)).heap.size [⟨#[97, 98, 99]⟩, ⟨#[98]⟩] [.slice (some ⟨wA.heap.size, 0, none⟩) 2 2] :=
      (OwnF.deep (F := FStr) (own_blk (F := FStr) (Blk.new wA 9 #[.string ⟨#[97, 98, 99]⟩, .string ⟨#[98]⟩]) rfl (Nat.le_refl _) rfl (by simp [maxLen])) (short_good (by decide)) wA.heap.size).sl (Nat.le_refl _)
    have bx := ax.trans ((below_alloc wA (.cells #[.string ⟨#[97, 98, 99]⟩, .string ⟨#[98]⟩] 9)).mono ax.size)
    replace kb := blk_keep kb (below_alloc wA (.cells #[.string ⟨#[97, 98, 99]⟩, .string ⟨#[98]⟩] 9))
    have zB : w3.heap.size < (wA.alloc (.cells #[.string ⟨#[97, 98, 99]⟩, .string ⟨#[98]⟩] 9)).heap.size := kb.lt
    revert zB; revert kb; revert bx; revert rl
    generalize wA.alloc (.cells #[.string ⟨#[97, 98, 99]⟩, .string ⟨#[98]⟩] 9) = wB
    intro rl bx kb zB
    have hp7 : ∀ s ∈ ([⟨#[97, 98, 99]⟩, ⟨#[98]⟩] : List ByteArray), pieceP (bs s) := fun s hs => by
      simp only [List.mem_cons, List.not_mem_nil, or_false] at hs
      rcases hs with rfl | rfl <;> exact ⟨by decide, by decide⟩
    refine (l3Make_any 3 7 (by omega) [⟨#[97, 98, 99]⟩, ⟨#[98]⟩] hp7 (by simp) _ wB _ _ (Nat.le_refl _) rl).mono ?_
    rintro e wC ⟨v4, rfl, o4, b4⟩
    have hl2 : (makeI 7 [⟨#[97, 98, 99]⟩, ⟨#[98]⟩]).length = 2 := makeI_len _ _
    have hpk : Hid (PkIs ⟨3, makeI 7 [⟨#[97, 98, 99]⟩, ⟨#[98]⟩]⟩) := Lib.hid ⟨fun y hy => by
      obtain ⟨s, hs, rfl⟩ := makeI_mem.1 hy
      exact nameL_range, by dsimp only; omega, by unfold In64; dsimp only; omega, makeI_good hp7⟩
    generalize makeI 7 [⟨#[97, 98, 99]⟩, ⟨#[98]⟩] = its at *
    obtain ⟨A3, c3, rfl⟩ := o4.form
    have zC := b4.size
    replace kb := blk_keep kb (b4.mono (by omega))
    have k1 := blk_keep k0 (bx.trans (b4.mono (by omega)))
    have ch1 := (ch0.trans (Chg.of_below (S := fun b => b = g) bx) fun i _ e => e).trans (Chg.of_below (S := fun b => b = g) b4) fun i _ e => e
    have rd1' := (rd3.chg (Chg.of_below (S := fun _ => False) bx) (fun _ _ h => h)).chg (Chg.of_below (S := fun _ => False) b4) (fun _ _ h => h)
    have hq4 : q ≤ p + 70 := by omega
    have hl4 : its.length ≤ 4 := by omega
    clear hl2 hp7
    have ckb := kb.cell
    have fkb := kb.frozen
    clear rd0 rd1 rd2 rd3 hc1 hc2 b3 hbw0 hq2 ch0 k0 ck0 fk0 rl bx ax o3
    have k9 := blk_ne (blk_ne k1 (p := ⟨w3.heap.size, 0, none⟩) (.int .i64 3) (by dsimp only; omega)) (p := ⟨w3.heap.size, 1, none⟩) (.slice A3 its.length c3) (by dsimp only; omega)
    have b9 := (kb.set_ 0 (.int .i64 3)).set_ 1 (.slice A3 its.length c3)
    simp only [List.setIfInBounds_toArray, List.set_cons_zero, List.set_cons_succ] at b9
    have rd9 := (rd1'.set_ (q := ⟨w3.heap.size, 0, none⟩) (.int .i64 3) ⟨by dsimp only; omega, by dsimp only; omega⟩).set_ (q := ⟨w3.heap.size, 1, none⟩) (.slice A3 its.length c3) ⟨by dsimp only; omega, by dsimp only; omega⟩
    have ch9 := (ch1.setCell (p := ⟨w3.heap.size, 0, none⟩) (.inr (by dsimp only; omega)) (.int .i64 3)).setCell (p := ⟨w3.heap.size, 1, none⟩) (.inr (by dsimp only; omega)) (.slice A3 its.length c3)
    have o9 := ((o4.set_ (p := ⟨w3.heap.size, 0, none⟩) (.int .i64 3) (by dsimp only; omega)).set_ (p := ⟨w3.heap.size, 1, none⟩) (.slice A3 its.length c3) (by dsimp only; omega)).base (show w2.heap.size ≤ wB.heap.size by have := b9; omega)
    have hw9 : wC.heap.size ≤ ((wC.setCell ⟨w3.heap.size, 0, none⟩ (.int .i64 3)).setCell ⟨w3.heap.size, 1, none⟩ (.slice A3 its.length c3)).heap.size := by simp
    go_wp2_with fail
    revert hw9; revert o9; revert ch9; revert rd9; revert b9; revert k9
    generalize (wC.setCell ⟨w3.heap.size, 0, none⟩ (.int .i64 3)).setCell ⟨w3.heap.size, 1, none⟩ (.slice A3 its.length c3) = w4
    intro k0 b0 rd4 ch0 o3 hw4
    have HPK := hpk
    clear hpk kb k1 ch1 rd1' ckb fkb o4 b4
    have hlen := HPK.out.2.1
    dsimp only at hlen
    refine (pick_any _ _ _ _ _ _ _ rd4 (by omega)).mono ?_
    rintro e w5 ⟨mk, rfl, ⟨_, hmk⟩, rd5, hc5⟩
    obtain ⟨mk1, mk2⟩ := hmk (by omega)
    clear hmk
    obtain ⟨kk, rfl⟩ := Int.eq_ofNat_of_zero_le mk1
    have hkk : kk < its.length := by omega
    replace k0 := blk_chg k0 hc5 (by omega)
    replace b0 := blk_chg b0 hc5 (by omega)
    have o5 := o3.chg hc5 (fun b hb e => by have := (o3.at_ hb).1; omega)
    replace ch0 := ch0.trans hc5 fun i _ e => e
    go_wp2_with fail
    refine (pick_any _ _ _ _ _ _ 8 rd5 (by omega)).mono ?_
    rintro e w6 ⟨m8, rfl, ⟨_, hm8⟩, rd6, hc6⟩
    clear hm8
    replace k0 := blk_chg k0 hc6 (by omega)
    replace b0 := blk_chg b0 hc6 (by omega)
    have o6 := o5.chg hc6 (fun b hb e => by have := (o5.at_ hb).1; omega)
    replace ch0 := ch0.trans hc6 fun i _ e => e
    clear rd4 rd5 hc5 hc6 o3 o5
    replace ck0 := k0.cell
    replace fk0 := k0.frozen
    replace cb0 := b0.cell
    replace fb0 := b0.frozen
    by_cases h0 : m8 = 0
    · have t1 : (m8 == 0) = true := beq_iff_eq.2 h0
      clear h0
      obtain ⟨gi, ci, hAc⟩ := o6.some_ (by omega)
      simp only [Value.slice.injEq] at hAc
      obtain ⟨rfl, -, rfl⟩ := hAc
      obtain ⟨it, hit⟩ := some_of_lt hkk
      have hgi := (o6.at_ (g := gi) rfl)
      go_wp2_with fail
      have f0 : w6.cell? ⟨w3.heap.size, 1, none⟩ = some (.slice (some ⟨gi, 0, none⟩) its.length c3) := cb0 1
      have hne : Nonempty (PastS w6 lo hi g l (q + 1 + 1 + 6) 99 99 99 w6.heap.size false 37 2 (fun _ => False) []) := st_some rd6 (by omega) none (fun b hb => by cases hb) (fun h => by cases h) (fun b hb => hb.elim) (fun b hb => by cases hb)
      have b0lt := b0.lt
      have k0lt := k0.lt
      have rdlt := rd6.lt
      have pastf : ∀ x : PastS w6 lo hi g l (q + 1 + 1 + 6) 99 99 99 w6.heap.size false 37 2 (fun _ => False) [], x.to.cell? ⟨w3.heap.size, 1, none⟩ = _ := fun x => pasts_cell f0 (by dsimp only; omega) (by dsimp only; omega) (fun h => h)
      refine region_stT (N := q + 1 + 1 + 6) (s := 99) (ia := 99) (ic := 99) (bk := w6.heap.size) (fx := false) (ty := 37) (n := 2) (S := fun _ => False) (pre := []) 6 (q + 1 + 1) [0, 1, 2, 3] [4, 5] (by kernel_rfl) (by kernel_rfl) (by kernel_rfl) rd6 (Nat.le_refl _) none (fun b hb => by cases hb) (fun h => by cases h) (fun b hb => hb.elim) (fun b hb => by cases hb) (.inl rfl) ?_
      simp only [pick, List.map, List.getD_cons_zero, List.getD_cons_succ]
      repeat (go_big_quiet_step (fail))
      refine wpQuiet_nil ?_
      clear pastf
      apply Exists.intro
      apply st_any (fun v x => ∃ b, v = .slice (some ⟨b, 0, none⟩) 4 4 ∧ x.free b ∧ Blk x.to b 9 #[.string ⟨#[122, 122]⟩, .string ⟨#[98, 46]⟩, .string ⟨#[]⟩, .string ⟨#[97, 98, 99, 46]⟩])
      · rfl
      · exact fun v x y ⟨b, e, hf, hk⟩ hl => ⟨b, e, hl.free hf, hl.blk hf hk⟩
      · intro x hF Qx hQ'
        have hQ := Lib.hid hQ'; clear hQ' hF
        go_wp2_with fail
        exact hQ.out _ _ (below_alloc _ _) ⟨_, rfl, x.free_new _ _, Blk.new _ _ _⟩
      intro u36
      simp only [Act.put, List.setIfInBounds_toArray, List.set_cons_zero, List.set_cons_succ]
      apply st_pick (fun v => ∃ s : ByteArray, v = .string s ∧ s.size ≤ 9)
      · rfl
      · intro x hF hN Qx hQ'
        have hQ := Lib.hid hQ'; clear hQ'
        obtain ⟨b, rfl, hf, hk⟩ := hF.1 (by kernel_rfl)
        clear hF
        have rl : RStrs x.to b x.to.heap.size [⟨#[122, 122]⟩, ⟨#[98, 46]⟩, ⟨#[]⟩, ⟨#[97, 98, 99, 46]⟩] [.slice (some ⟨b, 0, none⟩) 4 4] := (OwnF.deep (F := FStr) (own_blk (F := FStr) hk rfl (Nat.le_refl _) rfl (by simp [maxLen])) (short_good (by decide)) b).sl (Nat.le_refl _)
        go_wp2_with fail
        refine (of_any _ (by simp) _ _ _ _ _ _ _ _ x.to x.rd (by omega) rl).mono ?_
        rintro e wy ⟨s, hs, rfl, rdy, hcy⟩
        have hs9 := short9 (by decide) s hs
        clear hs
        go_wp2_with fail
        exact hQ.out _ _ rdy hcy ⟨s, rfl, hs9⟩
      intro u37
      simp only [Act.put, List.setIfInBounds_toArray, List.set_cons_zero, List.set_cons_succ]
      refine st_end fun x hF => ?_
      simp only [allF] at hF
      obtain ⟨⟨s, rfl, hs9⟩, -⟩ := hF
      have hcx : Chg (fun b => b = g) w6 x.to := x.ok.mono fun b hb h => by
        rcases h with h | h | ⟨_, h⟩
        · exact h
        · rcases x.bw b h with h | h <;> omega
        · exact h.elim
      have rd7 := x.rd
      have hxl := x.lim
      revert hxl; revert rd7; revert hcx
      generalize x.q = q7
      generalize x.to = w7
      intro hcx rd7 hxl
      clear x hne
      replace k0 := blk_chg k0 hcx (by omega)
      replace b0 := blk_chg b0 hcx (by omega)
      have o7 := o6.chg hcx (fun b hb e => by have := (o6.at_ hb).1; omega)
      replace ch0 := ch0.trans hcx fun i _ e => e
      have hfz := o7.frozen rfl
      have cold : w7.cell? ⟨gi, kk * 2 + 1, none⟩ = some (.string it.b) := o7.cell (j := 1) hit rfl
      simp only [List.drop]
      go_wp2_with fail
      have o8 := o7.put (i := kk) (j := 1) (x := it) (y := ⟨it.n, s⟩) (u := .string s) hit (by decide) rfl
      have hgb := own_ty_ne o7 b0 (by decide)
      have hgk := own_ty_ne o7 k0 (by decide)
      replace k0 := blk_ne k0 (p := ⟨gi, kk * 2 + 1, none⟩) (.string s) (by dsimp only; exact fun e => hgk _ rfl e)
      replace b0 := blk_ne b0 (p := ⟨gi, kk * 2 + 1, none⟩) (.string s) (by dsimp only; exact fun e => hgb _ rfl e)
      replace ch0 := ch0.setCell (p := ⟨gi, kk * 2 + 1, none⟩) (.inr (by dsimp only; omega)) (.string s)
      have rd8 := rd7.set_ (q := ⟨gi, kk * 2 + 1, none⟩) (.string s) ⟨by dsimp only; omega, by dsimp only; omega⟩
      have hw8 : w7.heap.size ≤ (w7.setCell ⟨gi, kk * 2 + 1, none⟩ (.string s)).heap.size := by simp
      have z7 := hcx.size
      have HP2 : Hid (PkIs ⟨3, its.set kk ⟨it.n, s⟩⟩) := Lib.hid (pk_body HPK.out hit hs9)
      have esz : FIt.sz = 2 := rfl
      rw [esz] at o8
      revert hw8; revert rd8; revert ch0; revert b0; revert k0; revert o8
      generalize w7.setCell ⟨gi, kk * 2 + 1, none⟩ (.string s) = w8
      intro o8 k0 b0 ch0 rd8 hw8
      replace ck0 := k0.cell
      replace fk0 := k0.frozen
      replace cb0 := b0.cell
      replace fb0 := b0.frozen
      clear o6 o7 rd6 rd7 hcx cold hfz
      go_wp2_with fail
      have f0 := cb0 0
      have f1 := cb0 1
      have past0 := past_cell f0
      have past1 := past_cell f1
      refine region_pastT 3 [0, 1, 2] [] (by kernel_rfl) (by kernel_rfl) (by kernel_rfl) ?_
      simp only [pick, List.map, List.getD_cons_zero, List.getD_cons_succ]
      repeat (go_big_quiet_step (fail))
      refine wpQuiet_nil ?_
      clear past0 past1
      apply Exists.intro
      refine past_end ?_
      intro wz hbz xx hxx hF
      dsimp only [allF] at hF
      try rw [hxx] at hF
      clear hxx xx
      simp only [List.drop]
      clear f0 f1 hF
      replace k0 := blk_keep k0 hbz
      replace ck0 := k0.cell
      replace fk0 := k0.frozen
      have rdz := rd8.chg (Chg.of_below (S := fun _ => False) hbz) (fun _ _ h => h)
      have chz := ch0.trans (Chg.of_below (S := fun b => b = g) hbz) fun i _ e => e
      have oz := o8.below hbz
      go_wp2_with fail
      have k4 := (k0.set_ 0 (.int .i64 3)).set_ 1 (.slice (some ⟨gi, 0, none⟩) its.length c3)
      simp only [List.setIfInBounds_toArray, List.set_cons_zero, List.set_cons_succ] at k4
      have ck4 := k4.cell
      exact bodyPost_ret (v := .tuple #[.int .i64 7, .agg #[.int .i64 3, .slice (some ⟨gi, 0, none⟩) its.length c3]]) (by simp [results, Try.results86, go_sem, ck4]) rfl ⟨⟨3, its.set kk ⟨it.n, s⟩⟩, _, _, _, rfl, ((oz.set_ _ (by dsimp only; omega)).set_ _ (by dsimp only; omega)).base (by omega), HP2.out, (rdz.set_ _ ⟨by dsimp only; omega, by dsimp only; omega⟩).set_ _ ⟨by dsimp only; omega, by dsimp only; omega⟩, by omega, (chz.setCell (p := ⟨w.heap.size, 0, none⟩) (.inr (Nat.le_refl _)) _).setCell (p := ⟨w.heap.size, 1, none⟩) (.inr (Nat.le_refl _)) _⟩
    · have t1 : (m8 == 0) = false := beq_eq_false_iff_ne.2 h0
      by_cases h1 : m8 = 1
      · have t2 : (m8 == 1) = true := beq_iff_eq.2 h1
        clear h0 h1
        go_wp2_with fail
        have f0 : w6.cell? ⟨w3.heap.size, 0, none⟩ = some (.int .i64 3) := cb0 0
        have f1 : w6.cell? ⟨w3.heap.size, 1, none⟩ = some (.slice A3 its.length c3) := cb0 1
        refine region_efT 1 37 (fun b => b = g) [] 4 [0] [1, 3, 2] (by kernel_rfl) (by kernel_rfl) (by kernel_rfl) ?_
        simp only [pick, List.map, List.getD_cons_zero, List.getD_cons_succ]
        repeat (go_big_quiet_step (fail))
        refine wpQuiet_nil ?_
        apply Exists.intro
        apply ef_eff (fun v y => y.done = true ∧ ∃ (d : Int) (q7 : Nat), v = .int .i64 d ∧ q7 ≤ q + 1 + 1 + 3 ∧ Rd y.to lo hi g l q7)
        · rfl
        · rfl
        · exact fun j hj => (by cases hj)
        · exact fun v x y ⟨hd, d, q7, e, hn, ht⟩ hl => ⟨(hl.from_ hd).1, d, q7, e, hn, ht.chg (Chg.of_below (S := fun _ => False) (hl.from_ hd).2) (fun _ _ h => h)⟩
        · intro y _ hdn Qx hQ'
          have hQ := Lib.hid hQ'; clear hQ'
          have rdy := rd6.chg (Chg.of_below (S := fun _ => False) (y.till hdn)) (fun _ _ h => h)
          go_wp2_with fail
          refine (l91Key_any l g _ lo hi y.to rdy (by omega)).mono ?_
          rintro e w2 ⟨d, q7, rfl, -, rdz, hq7, hc⟩
          go_wp2_with fail
          exact hQ.out _ _ (hc.mono fun c _ h => .inl h) ⟨rfl, d, q7, rfl, hq7, rdz⟩
        intro u43
        simp only [Act.put, List.setIfInBounds_toArray, List.set_cons_zero, List.set_cons_succ]
        apply ef_any (fun v y => ∃ d : Int, v = .int .i64 d)
        · rfl
        · exact fun v x y h _ => h
        · intro y hF _ Qx hQ'
          have hQ := Lib.hid hQ'; clear hQ'
          obtain ⟨-, d, -, rfl, -, -⟩ := hF.1 (by kernel_rfl)
          clear hF
          go_wp2_with fail
          exact hQ.out _ _ (Below.refl _ _) ⟨d, rfl⟩
        intro u2
        simp only [Act.put, List.setIfInBounds_toArray, List.set_cons_zero, List.set_cons_succ]
        apply ef_fix (.agg #[.int .i64 3, .slice A3 its.length c3])
        · intro y hF _ Qx hQ'
          have hQ := Lib.hid hQ'; clear hQ'; clear hF
          have ca := paste_cell f0 (by dsimp only; omega) y
          have cb := paste_cell f1 (by dsimp only; omega) y
          go_wp2_with fail
          exact hQ.out _ (Below.refl _ _)
        simp only [Act.put, List.setIfInBounds_toArray, List.set_cons_zero, List.set_cons_succ]
        refine ef_end fun y hF => ?_
        simp only [allF] at hF
        obtain ⟨⟨d, rfl⟩, ⟨-, d', q7, rfl, hq7, rd7⟩, -⟩ := hF
        have hcx : Chg (fun b => b = g) w6 y.to := y.ok.mono fun b hb h => h.2
        revert rd7; revert hcx
        generalize y.to = w7
        intro hcx rd7
        clear y
        replace k0 := blk_chg k0 hcx (by omega)
        have o7 := o6.chg hcx (fun b hb e => by have := (o6.at_ hb).1; omega)
        replace ch0 := ch0.trans hcx fun i _ e => e
        replace ck0 := k0.cell
        replace fk0 := k0.frozen
        simp only [List.drop]
        clear cb0 fb0 f0 f1
        go_wp2_with fail
        have k4 := (k0.set_ 0 (.int .i64 3)).set_ 1 (.slice A3 its.length c3)
        simp only [List.setIfInBounds_toArray, List.set_cons_zero, List.set_cons_succ] at k4
        have ck4 := k4.cell
        exact bodyPost_ret (v := .tuple #[.int .i64 d, .agg #[.int .i64 3, .slice A3 its.length c3]]) (by simp [results, Try.results86, go_sem, ck4]) rfl ⟨⟨3, its⟩, _, _, _, rfl, ((o7.set_ _ (by dsimp only; omega)).set_ _ (by dsimp only; omega)).base (by omega), HPK.out, (rd7.set_ _ ⟨by dsimp only; omega, by dsimp only; omega⟩).set_ _ ⟨by dsimp only; omega, by dsimp only; omega⟩, by omega, (ch0.setCell (p := ⟨w.heap.size, 0, none⟩) (.inr (Nat.le_refl _)) _).setCell (p := ⟨w.heap.size, 1, none⟩) (.inr (Nat.le_refl _)) _⟩
      · have t2 : (m8 == 1) = false := beq_eq_false_iff_ne.2 h1
        by_cases h2 : m8 = 2
        · have t3 : (m8 == 2) = true := beq_iff_eq.2 h2
          clear h0 h1 h2
          go_wp2_with fail
          refine (pick_any _ _ _ _ _ _ 3 rd6 (by omega)).mono ?_
          rintro e w7 ⟨m3, rfl, ⟨_, hm3⟩, rd7, hc7⟩
          clear hm3
          replace k0 := blk_chg k0 hc7 (by omega)
          replace b0 := blk_chg b0 hc7 (by omega)
          have o7 := o6.chg hc7 (fun b hb e => by have := (o6.at_ hb).1; omega)
          replace ch0 := ch0.trans hc7 fun i _ e => e
          replace ck0 := k0.cell
          replace fk0 := k0.frozen
          replace cb0 := b0.cell
          replace fb0 := b0.frozen
          clear rd6 hc7 o6
          by_cases h3 : m3 = 0
          · have t4 : (m3 == 0) = true := beq_iff_eq.2 h3
            clear h3
            obtain ⟨gi, ci, hAc⟩ := o7.some_ (by omega)
            simp only [Value.slice.injEq] at hAc
            obtain ⟨rfl, -, rfl⟩ := hAc
            obtain ⟨it, hit⟩ := some_of_lt hkk
            have hgi := (o7.at_ (g := gi) rfl)
            go_wp2_with fail
            have f1 : w7.cell? ⟨w3.heap.size, 1, none⟩ = some (.slice (some ⟨gi, 0, none⟩) its.length c3) := cb0 1
            have hgb := own_ty_ne o7 b0 (by decide)
            have past1 : ∀ y : PastE w7 8 44 (fun b => b = gi) [6, 7], _ := paste_cell f1 (by dsimp only; exact fun e => hgb _ rfl e)
            refine region_efT 8 44 (fun b => b = gi) [6, 7] 9 [0, 1, 2, 3, 4, 5] [6, 7, 8] (by kernel_rfl) (by kernel_rfl) (by kernel_rfl) ?_
            simp only [pick, List.map, List.getD_cons_zero, List.getD_cons_succ]
            repeat (go_big_quiet_step (fail))
            refine wpQuiet_nil ?_
            clear past1
            apply Exists.intro
            apply ef_fix (.agg #[.int .i64 it.n, .string it.b])
            · intro y hF hp Qx hQ'
              have hQ := Lib.hid hQ'; clear hQ'; clear hF
              have oy := o7.below (y.till (hp (by decide)))
              have ca : y.to.cell? ⟨gi, kk * 2, none⟩ = some (.int .i64 it.n) := oy.cell (j := 0) hit rfl
              have cb : y.to.cell? ⟨gi, kk * 2 + 1, none⟩ = some (.string it.b) := oy.cell (j := 1) hit rfl
              go_wp2_with fail
              exact hQ.out _ (Below.refl _ _)
            simp only [Act.put, List.setIfInBounds_toArray, List.set_cons_zero, List.set_cons_succ]
            apply ef_any (fun v x => x.done = false → ∃ b, v = .slice (some ⟨b, 0, none⟩) 1 1 ∧ Blk x.to b 44 #[.int .i64 it.n, .string it.b])
            · rfl
            · exact fun v x y h hl hd => by
                obtain ⟨b, e, hk⟩ := h (hl.till hd).1
                exact ⟨b, e, blk_keep hk (hl.till hd).2⟩
            · intro x _ _ Qx hQ'
              have hQ := Lib.hid hQ'; clear hQ'
              go_wp2_with fail
              exact hQ.out _ _ (below_alloc _ _) fun _ => ⟨_, rfl, Blk.new _ _ _⟩
            intro u57
            simp only [Act.put, List.setIfInBounds_toArray, List.set_cons_zero, List.set_cons_succ]
            apply ef_eff (fun v x => x.done = true ∧ ∃ A c, v = .slice A (its.length + 1) c ∧ OwnF FIt 44 x.to w2.heap.size (.slice A (its.length + 1) c) (its ++ [it]))
            · rfl
            · rfl
            · intro j hj
              rcases List.mem_cons.1 hj with rfl | hj
              · exact behind_of 9 _ _ (by kernel_rfl)
              · obtain rfl := List.mem_singleton.1 hj
                exact behind_of 9 _ _ (by kernel_rfl)
            · exact fun v x y ⟨hd, A, c, e, ho⟩ hl => ⟨(hl.from_ hd).1, A, c, e, ho.below (hl.from_ hd).2⟩
            · intro x hF hdn Qx hQ'
              have hQ := Lib.hid hQ'; clear hQ'
              obtain ⟨b, rfl, hkb⟩ := hF.1 (by kernel_rfl) hdn
              clear hF
              have hO := o7.below (x.till hdn)
              have hzz := x.ok.size
              refine app_flatB (F := FIt) rfl (.tmp 51) (.tmp 57) 35 rfl elem_it it rfl hO rfl hkb rfl (by omega) (by omega) ?_
              intro v8 w8 o8 ch8 at8
              refine wpList_nil ?_
              obtain ⟨A8, c8, rfl⟩ := o8.form
              simp only [List.length_append, List.length_cons, List.length_nil, Nat.zero_add] at o8
              refine hQ.out _ _ (ch8.mono fun b _ hb => .inl (by cases hb; rfl)) ⟨rfl, A8, c8, ?_, o8⟩
              simp
            intro u58
            simp only [Act.put, List.setIfInBounds_toArray, List.set_cons_zero, List.set_cons_succ]
            refine ef_end fun y hF => ?_
            simp only [allF] at hF
            obtain ⟨⟨-, A8, c8, rfl, o8⟩, -⟩ := hF
            have hcx : Chg (fun b => b = gi) w7 y.to := y.ok.mono fun b hb h => h.2
            revert o8; revert hcx
            generalize y.to = w8
            intro hcx o8
            clear y
            have hgk := own_ty_ne o7 k0 (by decide)
            replace k0 := blk_chg k0 hcx (fun e => hgk _ rfl e)
            replace b0 := blk_chg b0 hcx (fun e => hgb _ rfl e)
            have rd8 := rd7.chg hcx (fun b hb e => by have e' : b = gi := e; have := rd7.lt; have := rd7.hi_; rcases hb with hb | hb <;> omega)
            replace ch0 := ch0.trans hcx fun i hi' e => by have e' : i = gi := e; exfalso; omega
            replace ck0 := k0.cell
            replace fk0 := k0.frozen
            replace cb0 := b0.cell
            replace fb0 := b0.frozen
            have z8 := hcx.size
            clear f1 rd7 hcx o7
            simp only [List.drop]
            go_wp2_with fail
            have HP2 : Hid (PkIs ⟨3, its ++ [it]⟩) := Lib.hid (pk_more HPK.out hit hl4)
            have hgo := own_ty_ne o8 b0 (by decide)
            have o9 := o8.chg (S := fun b => b = w3.heap.size) ((Chg.refl (fun b => b = w3.heap.size) w8).setCell (p := ⟨w3.heap.size, 1, none⟩) (.inl rfl) (.slice A8 (its.length + 1) c8)) (fun b hb e => hgo b hb e.symm)
            have b9 := b0.set_ 1 (.slice A8 (its.length + 1) c8)
            simp only [List.setIfInBounds_toArray, List.set_cons_zero, List.set_cons_succ] at b9
            have k9 := blk_ne k0 (p := ⟨w3.heap.size, 1, none⟩) (.slice A8 (its.length + 1) c8) (by dsimp only; omega)
            have rd9 := rd8.set_ (q := ⟨w3.heap.size, 1, none⟩) (.slice A8 (its.length + 1) c8) ⟨by dsimp only; omega, by dsimp only; omega⟩
            have ch9 := ch0.setCell (p := ⟨w3.heap.size, 1, none⟩) (.inr (by dsimp only; omega)) (.slice A8 (its.length + 1) c8)
            have hw9 : w8.heap.size ≤ (w8.setCell ⟨w3.heap.size, 1, none⟩ (.slice A8 (its.length + 1) c8)).heap.size := by simp
            clear k0 b0 ck0 fk0 cb0 fb0 rd8 ch0 o8 hgo hgk hgb
            revert hw9; revert ch9; revert rd9; revert k9; revert b9; revert o9
            generalize w8.setCell ⟨w3.heap.size, 1, none⟩ (.slice A8 (its.length + 1) c8) = w9
            intro o9 b0 k0 rd9 ch0 hw9
            have ck0 := k0.cell
            have fk0 := k0.frozen
            have cb0 := b0.cell
            have fb0 := b0.frozen
            have f0 := cb0 0
            have f1 := cb0 1
            have past0 := past_cell f0
            have past1 := past_cell f1
            refine region_pastT 3 [0, 1, 2] [] (by kernel_rfl) (by kernel_rfl) (by kernel_rfl) ?_
            simp only [pick, List.map, List.getD_cons_zero, List.getD_cons_succ]
            repeat (go_big_quiet_step (fail))
            refine wpQuiet_nil ?_
            clear past0 past1
            apply Exists.intro
            refine past_end ?_
            intro wz hbz xx hxx hF
            dsimp only [allF] at hF
            try rw [hxx] at hF
            clear hxx xx
            simp only [List.drop]
            clear f0 f1 hF
            replace k0 := blk_keep k0 hbz
            replace ck0 := k0.cell
            replace fk0 := k0.frozen
            have rdz := rd9.chg (Chg.of_below (S := fun _ => False) hbz) (fun _ _ h => h)
            have chz := ch0.trans (Chg.of_below (S := fun b => b = g) hbz) fun i _ e => e
            have oz := o9.below hbz
            go_wp2_with fail
            have k4 := (k0.set_ 0 (.int .i64 3)).set_ 1 (.slice A8 (its.length + 1) c8)
            simp only [List.setIfInBounds_toArray, List.set_cons_zero, List.set_cons_succ] at k4
            have ck4 := k4.cell
            exact bodyPost_ret (v := .tuple #[.int .i64 7, .agg #[.int .i64 3, .slice A8 (its.length + 1) c8]]) (by simp [results, Try.results86, go_sem, ck4]) rfl ⟨⟨3, its ++ [it]⟩, _, _, _, rfl, ((oz.set_ _ (by dsimp only; omega)).set_ _ (by dsimp only; omega)).base (by omega), HP2.out, (rdz.set_ _ ⟨by dsimp only; omega, by dsimp only; omega⟩).set_ _ ⟨by dsimp only; omega, by dsimp only; omega⟩, by omega, (chz.setCell (p := ⟨w.heap.size, 0, none⟩) (.inr (Nat.le_refl _)) _).setCell (p := ⟨w.heap.size, 1, none⟩) (.inr (Nat.le_refl _)) _⟩
          · have t4 : (m3 == 0) = false := beq_eq_false_iff_ne.2 h3
            clear h3
            go_wp2_with fail
            have f0 := cb0 0
            have f1 := cb0 1
            have past0 := past_cell f0
            have past1 := past_cell f1
            refine region_pastT 3 [0, 1, 2] [] (by kernel_rfl) (by kernel_rfl) (by kernel_rfl) ?_
            simp only [pick, List.map, List.getD_cons_zero, List.getD_cons_succ]
            repeat (go_big_quiet_step (fail))
            refine wpQuiet_nil ?_
            clear past0 past1
            apply Exists.intro
            refine past_end ?_
            intro wz hbz xx hxx hF
            dsimp only [allF] at hF
            try rw [hxx] at hF
            clear hxx xx
            simp only [List.drop]
            clear f0 f1 hF
            replace k0 := blk_keep k0 hbz
            replace ck0 := k0.cell
            replace fk0 := k0.frozen
            have rdz := rd7.chg (Chg.of_below (S := fun _ => False) hbz) (fun _ _ h => h)
            have chz := ch0.trans (Chg.of_below (S := fun b => b = g) hbz) fun i _ e => e
            have oz := o7.below hbz
            go_wp2_with fail
            have k4 := (k0.set_ 0 (.int .i64 3)).set_ 1 (.slice A3 its.length c3)
            simp only [List.setIfInBounds_toArray, List.set_cons_zero, List.set_cons_succ] at k4
            have ck4 := k4.cell
            exact bodyPost_ret (v := .tuple #[.int .i64 7, .agg #[.int .i64 3, .slice A3 its.length c3]]) (by simp [results, Try.results86, go_sem, ck4]) rfl ⟨⟨3, its⟩, _, _, _, rfl, ((oz.set_ _ (by dsimp only; omega)).set_ _ (by dsimp only; omega)).base (by omega), HPK.out, (rdz.set_ _ ⟨by dsimp only; omega, by dsimp only; omega⟩).set_ _ ⟨by dsimp only; omega, by dsimp only; omega⟩, by omega, (chz.setCell (p := ⟨w.heap.size, 0, none⟩) (.inr (Nat.le_refl _)) _).setCell (p := ⟨w.heap.size, 1, none⟩) (.inr (Nat.le_refl _)) _⟩
        · have t3 : (m8 == 2) = false := beq_eq_false_iff_ne.2 h2
          clear h0 h1 h2
          go_wp2_with fail
          have f0 := cb0 0
          have f1 := cb0 1
          have past0 := past_cell f0
          have past1 := past_cell f1
          refine region_pastT 3 [0, 1, 2] [] (by kernel_rfl) (by kernel_rfl) (by kernel_rfl) ?_
          simp only [pick, List.map, List.getD_cons_zero, List.getD_cons_succ]
          repeat (go_big_quiet_step (fail))
          refine wpQuiet_nil ?_
          clear past0 past1
          apply Exists.intro
          refine past_end ?_
          intro wz hbz xx hxx hF
          dsimp only [allF] at hF
          try rw [hxx] at hF
          clear hxx xx
          simp only [List.drop]
          clear f0 f1 hF
          replace k0 := blk_keep k0 hbz
          replace ck0 := k0.cell
          replace fk0 := k0.frozen
          have rdz := rd6.chg (Chg.of_below (S := fun _ => False) hbz) (fun _ _ h => h)
          have chz := ch0.trans (Chg.of_below (S := fun b => b = g) hbz) fun i _ e => e
          have oz := o6.below hbz
          go_wp2_with fail
          have k4 := (k0.set_ 0 (.int .i64 3)).set_ 1 (.slice A3 its.length c3)
          simp only [List.setIfInBounds_toArray, List.set_cons_zero, List.set_cons_succ] at k4
          have ck4 := k4.cell
          exact bodyPost_ret (v := .tuple #[.int .i64 7, .agg #[.int .i64 3, .slice A3 its.length c3]]) (by simp [results, Try.results86, go_sem, ck4]) rfl ⟨⟨3, its⟩, _, _, _, rfl, ((oz.set_ _ (by dsimp only; omega)).set_ _ (by dsimp only; omega)).base (by omega), HPK.out, (rdz.set_ _ ⟨by dsimp only; omega, by dsimp only; omega⟩).set_ _ ⟨by dsimp only; omega, by dsimp only; omega⟩, by omega, (chz.setCell (p := ⟨w.heap.size, 0, none⟩) (.inr (Nat.le_refl _)) _).setCell (p := ⟨w.heap.size, 1, none⟩) (.inr (Nat.le_refl _)) _⟩
end Go.Proofs.Ytanppokbjladfaa
