


/- The program's RingShut. -/
import Derived.Test.YtdbeclnoaeiaeaaRgTi
import Derived.Test.YtdbeclnoaeiaeaaRgS
namespace Go.Proofs.Ytdbeclnoaeiaeaa
open Go.RowKit Go.MuLone

set_option maxRecDepth 100000 in
theorem indexFunc_gr (F : Nat) (caps : Array Value) (p : Gr → Bool) (xs : List Gr) (A : Option Addr) (m c : Nat) (w : World) (lo hi : Nat) (h : RSl RGr 3 w lo hi xs [.slice A m c]) (hhi : hi ≤ w.heap.size) (hF : IsFn F)
    (hf : ∀ x ∈ xs, ∀ w0, Below w.heap.size w w0 → Calls Try.prog F (#[.agg #[.int .i64 x.m, .int .i64 x.f, .int .i64 x.t]] ++ caps) w0 fun e w' => e = .returned (.bool (p x)) ∧ Below w0.heap.size w0 w') :
    Calls Try.prog 80 #[.slice A m c, .func (.func F) #[] caps] w fun e w' => e = .returned (.int .i64 (idxOf p xs)) ∧ Below w.heap.size w w' := by
  obtain ⟨rfl, hc, hx⟩ := h.len_
  unfold maxLen at hx
  have HF := Lib.hid hf; clear hf
  go_enter Try.func80, Try.ntmps80
  go_wp2_with fail
  go_loopw [8] (fun i wr => ∃ k : Nat, k ≤ xs.length ∧ i = .int .i64 k ∧ (∀ y ∈ xs.take k, p y = false) ∧ Below w.heap.size w wr) (fun i _ => xs.length - (intOf i).toNat)
  case atStart => exact ⟨0, Nat.zero_le _, rfl, by simp, Below.refl _ _⟩
  case round =>
    obtain ⟨k, hk, rfl, hn, hbr⟩ := hrel
    have HN := Lib.hid hn; clear hn
    by_cases hlt : k < xs.length
    · obtain ⟨x, hxk⟩ := some_of_lt hlt
      obtain ⟨b, off, rfl, _, _, _, h0, h1, h2⟩ := (sl_keep RGr.loc h hbr hhi).grs_at hxk
      have HX := Lib.hid hxk; clear hxk
      have hcall := hF (#[.agg #[.int .i64 x.m, .int .i64 x.f, .int .i64 x.t]] ++ caps) wr
      cases hp : p x
      · have HP := Lib.hid hp; clear hp
        go_wp2_with fail
        refine (HF.out x (List.mem_of_getElem? HX.out) wr hbr).mono ?_
        rintro e w' ⟨rfl, hb'⟩
        rw [HP.out]
        have hnx : ∀ y ∈ xs.take (k + 1), p y = false := by
          intro y hy
          rw [take_succ HX.out, List.mem_append] at hy
          rcases hy with hy | hy
          · exact HN.out y hy
          · rw [List.mem_singleton.1 hy]; exact HP.out
        have HNX := Lib.hid hnx; clear hnx
        go_wp2_with fail
        go_roundw
        case rel => first | exact ⟨k + 1, by omega, by go_num, HNX.out, below_below hbr hb'⟩ | ((repeat apply Exists.intro); refine ⟨?_, rfl⟩; exact ⟨k + 1, by omega, by go_num, HNX.out, below_below hbr hb'⟩)
        case measure => simp [intOf]; omega
      · have HP := Lib.hid hp; clear hp
        go_wp2_with fail
        refine (HF.out x (List.mem_of_getElem? HX.out) wr hbr).mono ?_
        rintro e w' ⟨rfl, hb'⟩
        rw [HP.out]
        go_wp2_with fail
        go_ret
        exact ⟨ret_int (idx_hit HX.out HP.out HN.out).symm, below_below hbr hb'⟩
    · obtain rfl : k = xs.length := by omega
      go_wp2_with fail
      go_ret
      exact ⟨ret_int (by have := HN.out; rw [List.take_length] at this; exact (idx_none this).symm), hbr⟩
theorem shut1_any (x : Gr) (m : Int) (g : Nat) (w : World) (hb : Blk w g 3 #[.int .i64 m]) : Calls Try.prog 81 #[.agg #[.int .i64 x.m, .int .i64 x.f, .int .i64 x.t], .pointer (some ⟨g, 0, none⟩)] w fun e w' => e = .returned (.bool (decide (x.m = m) && decide (x.t = 0))) ∧ Below w.heap.size w w' := by
  have ax := below_alloc w (.cells #[.int .i64 x.m, .int .i64 x.f, .int .i64 x.t] 37)
  have k0 := blk_keep hb ax
  have ck0 : (w.alloc (.cells #[.int .i64 x.m, .int .i64 x.f, .int .i64 x.t] 37)).cell? ⟨g, 0, none⟩ = some (.int .i64 m) := k0.cell 0
  by_cases h1 : x.m = m
  · have t1 : (x.m == m) = true := beq_iff_eq.2 h1
    have H1 := Lib.hid h1; clear h1
    go_enter Try.func81, Try.ntmps81
    go_wp2_with fail
    go_ret
    exact ⟨ret_bool (by rw [decide_eq_true H1.out]; simp [Bool.beq_eq_decide_eq]), below_alloc _ _⟩
  · have t1 : (x.m == m) = false := beq_eq_false_iff_ne.2 h1
    have H1 := Lib.hid h1; clear h1
    go_enter Try.func81, Try.ntmps81
    go_wp2_with fail
    go_ret
    exact ⟨ret_bool (by rw [decide_eq_false H1.out]; rfl), below_alloc _ _⟩
set_option maxHeartbeats 1000000 in
theorem shut_no (r : Rg) (m : Int) (g base : Nat) (w : World) (h : Gd w base g r) (hix : idxOf (fun x : Gr => decide (x.m = m) && decide (x.t = 0)) r.grs = -1) (hgr : ∀ x ∈ r.grs, FGr.good x) :
    Calls Try.prog 71 #[.pointer (some ⟨g, 0, none⟩), .int .i64 m] w fun e w' => e = .returned (.bool false) ∧ Gd w' base g r ∧ Chg (fun b => base ≤ b) w w' := by
  have G64 := Lib.hid hgr; clear hgr
  obtain ⟨hbg, va, vb, k0, ho⟩ := h
  obtain ⟨A, c, rfl⟩ := ho.keys.form
  obtain ⟨B, d, rfl⟩ := ho.grs.form
  have ax := below_alloc w (.cells #[.int .i64 m] 3)
  have kb := Blk.new w 3 #[.int .i64 m]
  have hgl := k0.lt
  replace k0 := blk_keep k0 ax
  replace ho := ho.below ax
  have c0 : (w.alloc (.cells #[.int .i64 m] 3)).cell? ⟨g, 0, none⟩ = some (.int .i32 0) := k0.cell 0
  have f0 := k0.frozen 0
  have n1 := own_blk_ne ho.keys k0 (by decide)
  have n2 := own_blk_ne ho.grs k0 (by decide)
  have o1 := ho.keys.set_ne (p := ⟨g, 0, none⟩) (.int .i32 1) (fun b hb he => n1 (by rw [hb, he]))
  have o2 := ho.grs.set_ne (p := ⟨g, 0, none⟩) (.int .i32 1) (fun b hb he => n2 (by rw [hb, he]))
  have ch1 : Chg (fun b => base ≤ b) w ((w.alloc (.cells #[.int .i64 m] 3)).setCell ⟨g, 0, none⟩ (.int .i32 1)) := ((Chg.refl _ _).alloc _).setCell (p := ⟨g, 0, none⟩) (.inl hbg) _
  replace kb := blk_ne kb (p := ⟨g, 0, none⟩) (.int .i32 1) (by dsimp only; omega)
  clear ax
  go_enter_defers Try.func71, Try.ntmps71
  go_wp2_with (go_at_call 78; refine (lock_free muLib ⟨g, 0, none⟩ _ c0 f0).mono ?_; rintro e w' ⟨rfl, rfl⟩; replace k0 := k0.set_ 0 (.int .i32 1); simp only [List.setIfInBounds_toArray, List.set_cons_zero, List.set_cons_succ] at k0; clear c0 f0 ho; generalize (w.alloc (.cells #[.int .i64 m] 3)).setCell ⟨g, 0, none⟩ (.int .i32 1) = w1 at *; have ck0 := k0.cell; have fk0 := k0.frozen)
  refine (indexFunc_gr 81 #[.pointer (some ⟨w.heap.size, 0, none⟩)] (fun x => decide (x.m = m) && decide (x.t = 0)) r.grs _ _ _ w1 base w1.heap.size (o2.sl G64.out (Nat.le_refl _)) (Nat.le_refl _) (isFn Try.func81 (by kernel_rfl) rfl) (fun x _ w0 hb0 => shut1_any x m _ w0 (blk_keep kb hb0))).mono ?_
  rintro e w2 ⟨rfl, b2⟩
  replace k0 := blk_keep k0 b2
  replace ck0 := k0.cell
  replace fk0 := k0.frozen
  replace o1 := o1.below b2
  replace o2 := o2.below b2
  replace ch1 := ch1.trans (Chg.of_below (S := fun _ => False) b2) (fun i _ hs => hs.elim)
  go_wp2_with fail
  refine leaves_cons (f := 79) (args := #[.pointer (some ⟨g, 0, none⟩)]) (by simp) (by simp [go_sem]) ?_
  refine (unlock_deferred muLib ⟨g, 0, none⟩ .returning _ ?_ ?_).mono ?_
  · exact k0.cell 0
  · exact k0.frozen 0
  rintro e u' w'' ⟨rfl, rfl, rfl⟩
  replace k0 := k0.set_ 0 (.int .i32 0)
  simp only [List.setIfInBounds_toArray, List.set_cons_zero, List.set_cons_succ] at k0
  exact ⟨_, results_tmp rfl _ _ _, rfl, ⟨hbg, _, _, k0, o1.set_ne _ (fun b hb he => n1 (by rw [hb, he])), o2.set_ne _ (fun b hb he => n2 (by rw [hb, he]))⟩, ch1.setCell (p := ⟨g, 0, none⟩) (.inl hbg) _⟩
set_option maxHeartbeats 1000000 in
theorem shut_yes (r : Rg) (m : Int) (g base : Nat) (w : World) (h : Gd w base g r) (k : Nat) (x : Gr) (hk : r.grs[k]? = some x) (hix : idxOf (fun x : Gr => decide (x.m = m) && decide (x.t = 0)) r.grs = (k : Int)) (hgr : ∀ x ∈ r.grs, FGr.good x) :
    Calls Try.prog 71 #[.pointer (some ⟨g, 0, none⟩), .int .i64 m] w fun e w' => e = .returned (.bool true) ∧ Gd w' base g ⟨r.keys, r.grs.set k ⟨x.m, x.f, r.keys.length⟩⟩ ∧ Chg (fun b => base ≤ b) w w' := by
  have G64 := Lib.hid hgr; clear hgr
  have HK := Lib.hid hk
  have hklt := lt_of_some hk
  clear hk
  obtain ⟨hbg, va, vb, k0, ho⟩ := h
  obtain ⟨A, c, rfl⟩ := ho.keys.form
  obtain ⟨B, d, rfl⟩ := ho.grs.form
  have ax := below_alloc w (.cells #[.int .i64 m] 3)
  have kb := Blk.new w 3 #[.int .i64 m]
  have hgl := k0.lt
  replace k0 := blk_keep k0 ax
  replace ho := ho.below ax
  have c0 : (w.alloc (.cells #[.int .i64 m] 3)).cell? ⟨g, 0, none⟩ = some (.int .i32 0) := k0.cell 0
  have f0 := k0.frozen 0
  have n1 := own_blk_ne ho.keys k0 (by decide)
  have n2 := own_blk_ne ho.grs k0 (by decide)
  have o1 := ho.keys.set_ne (p := ⟨g, 0, none⟩) (.int .i32 1) (fun b hb he => n1 (by rw [hb, he]))
  have o2 := ho.grs.set_ne (p := ⟨g, 0, none⟩) (.int .i32 1) (fun b hb he => n2 (by rw [hb, he]))
  have ch1 : Chg (fun b => base ≤ b) w ((w.alloc (.cells #[.int .i64 m] 3)).setCell ⟨g, 0, none⟩ (.int .i32 1)) := ((Chg.refl _ _).alloc _).setCell (p := ⟨g, 0, none⟩) (.inl hbg) _
  replace kb := blk_ne kb (p := ⟨g, 0, none⟩) (.int .i32 1) (by dsimp only; omega)
  clear ax
  go_enter_defers Try.func71, Try.ntmps71
  go_wp2_with (go_at_call 78; refine (lock_free muLib ⟨g, 0, none⟩ _ c0 f0).mono ?_; rintro e w' ⟨rfl, rfl⟩; replace k0 := k0.set_ 0 (.int .i32 1); simp only [List.setIfInBounds_toArray, List.set_cons_zero, List.set_cons_succ] at k0; clear c0 f0 ho; generalize (w.alloc (.cells #[.int .i64 m] 3)).setCell ⟨g, 0, none⟩ (.int .i32 1) = w1 at *; have ck0 := k0.cell; have fk0 := k0.frozen)
  refine (indexFunc_gr 81 #[.pointer (some ⟨w.heap.size, 0, none⟩)] (fun x => decide (x.m = m) && decide (x.t = 0)) r.grs _ _ _ w1 base w1.heap.size (o2.sl G64.out (Nat.le_refl _)) (Nat.le_refl _) (isFn Try.func81 (by kernel_rfl) rfl) (fun x _ w0 hb0 => shut1_any x m _ w0 (blk_keep kb hb0))).mono ?_
  rintro e w2 ⟨rfl, b2⟩
  replace k0 := blk_keep k0 b2
  replace ck0 := k0.cell
  replace fk0 := k0.frozen
  replace o1 := o1.below b2
  replace o2 := o2.below b2
  replace ch1 := ch1.trans (Chg.of_below (S := fun _ => False) b2) (fun i _ hs => hs.elim)
  go_wp2_with fail
  clear hix
  obtain ⟨gg, cc, hB⟩ := o2.some_ (by omega)
  simp only [Value.slice.injEq] at hB
  obtain ⟨rfl, -, rfl⟩ := hB
  have e2 : w2.cell? ⟨g, 2, none⟩ = some (.slice A r.keys.length c) := k0.cell 2
  have e3 : w2.cell? ⟨g, 3, none⟩ = some (.slice (some ⟨gg, 0, none⟩) r.grs.length d) := k0.cell 3
  have hk1 : (k : Int) < r.grs.length := by omega
  have hk0 : (0 : Int) ≤ (k : Int) := by omega
  have past0 := past_cell e2
  have past1 := past_cell e3
  refine region_pastT 14 [0, 1, 2, 3, 4, 5, 6, 7, 8, 9, 10, 11, 12, 13] [] (by kernel_rfl) (by kernel_rfl) (by kernel_rfl) ?_
  simp only [pick, List.map, List.getD_cons_zero, List.getD_cons_succ]
  repeat (go_big_quiet_step (fail))
  refine wpQuiet_nil ?_
  clear past0 past1
  apply Exists.intro
  refine past_end ?_
  intro w3 hb3 xx hxx hF
  dsimp only [allF] at hF
  try rw [hxx] at hF
  clear hxx xx
  clear hF
  have p1 := (o2.below hb3).put (j := 2) (y := ⟨x.m, x.f, r.keys.length⟩) (u := .int .i64 r.keys.length) HK.out (by decide) rfl
  have hcg : w3.cell? ⟨gg, k * 3 + 2, none⟩ = some (.int .i64 x.t) := (o2.below hb3).cell (j := 2) HK.out rfl
  have hfg : w3.frozen? ⟨gg, k * 3 + 2, none⟩ = false := (o2.below hb3).frozen rfl _
  have hap := own_apart o1 o2 (by decide)
  have hat := (o2.at_ (g := gg) rfl).1
  have p2 := (o1.below hb3).set_ne (p := ⟨gg, k * 3 + 2, none⟩) (.int .i64 r.keys.length) (fun b hb he => hap b hb (by rw [he]; rfl))
  have hng : g ≠ gg := fun he => n2 (by rw [he]; rfl)
  replace k0 := blk_ne (blk_keep k0 hb3) (p := ⟨gg, k * 3 + 2, none⟩) (.int .i64 r.keys.length) hng
  have ch4 := ((ch1.trans (Chg.of_below (S := fun _ => False) hb3) (fun i _ hs => hs.elim))).setCell (p := ⟨gg, k * 3 + 2, none⟩) (.inl hat) (.int .i64 r.keys.length)
  simp only [List.drop]
  clear ck0 fk0
  go_wp2_with fail
  have HP1 : OwnF FGr 37 (w3.setCell ⟨gg, k * 3 + 2, none⟩ (.int .i64 r.keys.length)) base (.slice (some ⟨gg, 0, none⟩) r.grs.length d) (r.grs.set k ⟨x.m, x.f, r.keys.length⟩) := p1
  generalize w3.setCell ⟨gg, k * 3 + 2, none⟩ (.int .i64 r.keys.length) = w4 at *
  refine leaves_cons (f := 79) (args := #[.pointer (some ⟨g, 0, none⟩)]) (by simp) (by simp [go_sem]) ?_
  refine (unlock_deferred muLib ⟨g, 0, none⟩ .returning _ ?_ ?_).mono ?_
  · exact k0.cell 0
  · exact k0.frozen 0
  rintro e u' w'' ⟨rfl, rfl, rfl⟩
  replace k0 := k0.set_ 0 (.int .i32 0)
  simp only [List.setIfInBounds_toArray, List.set_cons_zero, List.set_cons_succ] at k0
  exact ⟨_, results_tmp rfl _ _ _, rfl, ⟨hbg, _, _, k0, p2.set_ne _ (fun b hb he => n1 (by rw [hb, he])), HP1.set_ne _ (fun b hb he => n2 (by rw [hb, he]))⟩, ch4.setCell (p := ⟨g, 0, none⟩) (.inl hbg) _⟩
set_option maxHeartbeats 2000000 in
theorem implRingShut_any (r : Rg) (mm key : Int) (va vb : Value) (w : World) (lo hi : Nat) (hhi : hi ≤ w.heap.size) (ha : RSl RInt 1 w lo hi r.keys [va]) (h : RSl RGr 3 w lo hi r.grs [vb]) (hl1 : r.keys.length ≤ 1048576) (hl2 : r.grs.length ≤ 1048576) (r' : Rg) (ok : Bool) (hr : RShut r mm key r' ok) :
    Calls Try.prog 41 #[.agg #[va, vb], .int .i64 mm, .int .i64 key] w (NewRg2 w r' ok) := by
  have H64 := Lib.hid ha.in64
  have G64 := Lib.hid (RSl.good (F := FGr) h)
  obtain ⟨A, c, rfl⟩ := ha.form
  obtain ⟨B, d, rfl⟩ := h.form
  rcases hr with ⟨rfl, h1, h2, k, x, hk, hxm, hxt, rfl⟩ | ⟨rfl, h1, h2, rfl⟩ | ⟨rfl, h1, rfl⟩
  · have hix : idxOf (fun x : Gr => decide (x.m = mm) && decide (x.t = 0)) r.grs = (k : Int) := idx_hit hk (by simp [hxm, hxt]) fun y hy => by
      obtain ⟨j, hj⟩ := List.mem_iff_getElem?.1 hy
      have hlt := lt_of_some hj
      rw [List.length_take] at hlt
      rw [List.getElem?_take_of_lt (by omega)] at hj
      by_cases he : y.m = mm
      · obtain ⟨h5, _⟩ := grs_one h1.1.2.1 hj hk (by rw [he, hxm])
        omega
      · simp [he]
    have H1 := Lib.hid h1; clear h1
    have t1 : decide (key ∈ r.keys) = false := by simpa using h2.1
    have hlt9 : (r.keys.length : Int) < 9 := by have := h2.2; omega
    have HX := Lib.hid hix; have HK := Lib.hid hk; have HM := Lib.hid hxm; have HT := Lib.hid hxt
    clear h2 hix hk hxm hxt
    go_enter Try.func41, Try.ntmps41
    go_wp2_with fail
    have hbw0 : Below w.heap.size w ((w.alloc (.cells #[.slice A r.keys.length c, .slice B r.grs.length d] 30)).alloc (.cells #[.slice none 0 0, .slice none 0 0] 30)) := below_alloc' (below_alloc _ _) _
    have k0 : Blk ((w.alloc (.cells #[.slice A r.keys.length c, .slice B r.grs.length d] 30)).alloc (.cells #[.slice none 0 0, .slice none 0 0] 30)) (w.heap.size) 30 #[.slice A r.keys.length c, .slice B r.grs.length d] := by
      have hk := blk_alloc (Blk.new w 30 #[.slice A r.keys.length c, .slice B r.grs.length d]) (.cells #[.slice none 0 0, .slice none 0 0] 30)
      exact hk
    have k1 : Blk ((w.alloc (.cells #[.slice A r.keys.length c, .slice B r.grs.length d] 30)).alloc (.cells #[.slice none 0 0, .slice none 0 0] 30)) (w.heap.size + 1) 30 #[.slice none 0 0, .slice none 0 0] := by
      have hk := Blk.new (w.alloc (.cells #[.slice A r.keys.length c, .slice B r.grs.length d] 30)) 30 #[.slice none 0 0, .slice none 0 0]
      simp only [World.size_alloc] at hk
      exact hk
    have hsw0 : w.heap.size + 2 ≤ ((w.alloc (.cells #[.slice A r.keys.length c, .slice B r.grs.length d] 30)).alloc (.cells #[.slice none 0 0, .slice none 0 0] 30)).heap.size := by simp only [World.size_alloc]; omega
    generalize ((w.alloc (.cells #[.slice A r.keys.length c, .slice B r.grs.length d] 30)).alloc (.cells #[.slice none 0 0, .slice none 0 0] 30)) = w0 at *
    have ck0 := k0.cell
    have fk0 := k0.frozen
    have ck1 := k1.cell
    have fk1 := k1.frozen
    refine (implRingOk_any r _ _ _ _ _ (Nat.le_trans hhi hbw0.size) (sl_keep RInt.loc ha hbw0 hhi) (sl_keep RGr.loc h hbw0 hhi) true (by simp only [true_iff]; exact H1.out.1)).mono ?_
    rintro e w1 ⟨rfl, b1⟩
    replace k0 := blk_keep k0 b1
    replace ck0 := k0.cell
    replace fk0 := k0.frozen
    replace k1 := blk_keep k1 b1
    replace ck1 := k1.cell
    replace fk1 := k1.frozen
    replace hbw0 := below_below hbw0 b1
    go_wp2_with fail
    refine (keyOk_any key _ true (by simp only [true_iff]; exact H1.out.2)).mono ?_
    rintro e w2 ⟨rfl, rfl⟩
    go_wp2_with fail
    refine (guard_any r _ _ _ _ _ (Nat.le_trans hhi hbw0.size) (sl_keep RInt.loc ha hbw0 hhi) (sl_keep RGr.loc h hbw0 hhi) hl1 hl2).mono ?_
    rintro e w2 ⟨g, rfl, o1, b2⟩
    replace k0 := blk_keep k0 b2
    replace ck0 := k0.cell
    replace fk0 := k0.frozen
    replace k1 := blk_keep k1 b2
    replace ck1 := k1.cell
    replace fk1 := k1.frozen
    have z0 := hsw0
    have z1 := b1.size
    replace hbw0 := below_below hbw0 b2
    go_wp2_with fail
    refine (shut_yes r mm g _ _ o1 k x HK.out HX.out G64.out).mono ?_
    rintro e w3 ⟨rfl, o3, ch3⟩
    replace k0 := blk_chg k0 ch3 (by omega)
    replace k1 := blk_chg k1 ch3 (by omega)
    have zk := k1.lt
    replace ck0 := k0.cell
    replace ck1 := k1.cell
    replace fk1 := k1.frozen
    replace hbw0 := hbw0.trans (Chg.below ch3 hbw0.size fun i hi hs => by omega)
    go_wp2_with fail
    refine (turn_yes ⟨r.keys, r.grs.set k ⟨x.m, x.f, r.keys.length⟩⟩ key g _ _ o3 hlt9 t1 H64.out).mono ?_
    rintro e w4 ⟨rfl, o4, ch4⟩
    replace k0 := blk_chg k0 ch4 (by omega)
    replace k1 := blk_chg k1 ch4 (by omega)
    have zk := k1.lt
    replace ck0 := k0.cell
    replace ck1 := k1.cell
    replace fk1 := k1.frozen
    replace hbw0 := hbw0.trans (Chg.below ch4 hbw0.size fun i hi hs => by omega)
    obtain ⟨hg3, va, vb, kg, og⟩ := o4
    obtain ⟨A3, c3, rfl⟩ := og.keys.form
    obtain ⟨B3, d3, rfl⟩ := og.grs.form
    have cg0 : w4.cell? ⟨g, 2, none⟩ = some (.slice A3 (r.keys ++ [key]).length c3) := kg.cell 2
    have cg1 : w4.cell? ⟨g, 3, none⟩ = some (.slice B3 (r.grs.set k ⟨x.m, x.f, r.keys.length⟩).length d3) := kg.cell 3
    go_wp2_with fail
    exact bodyPost_ret (v := .tuple #[.agg #[_, _], .bool true]) (by simp [results, Try.results41, go_sem, ck1]) rfl ⟨_, _, rfl, ((og.set_ _ (by dsimp only; omega)).set_ _ (by dsimp only; omega)).base (by omega), (hbw0.setCell (by simp) _).setCell (by simp) _⟩
  · have H1 := Lib.hid h1
    rcases idx_cases (fun x : Gr => decide (x.m = mm) && decide (x.t = 0)) r.grs with ⟨hix, hn⟩ | ⟨k, x, hk, hp, hix⟩
    · clear h1 h2 hn
      have HX := Lib.hid hix; clear hix
      go_enter Try.func41, Try.ntmps41
      go_wp2_with fail
      have hbw0 : Below w.heap.size w ((w.alloc (.cells #[.slice A r.keys.length c, .slice B r.grs.length d] 30)).alloc (.cells #[.slice none 0 0, .slice none 0 0] 30)) := below_alloc' (below_alloc _ _) _
      have k0 : Blk ((w.alloc (.cells #[.slice A r.keys.length c, .slice B r.grs.length d] 30)).alloc (.cells #[.slice none 0 0, .slice none 0 0] 30)) (w.heap.size) 30 #[.slice A r.keys.length c, .slice B r.grs.length d] := by
        have hk := blk_alloc (Blk.new w 30 #[.slice A r.keys.length c, .slice B r.grs.length d]) (.cells #[.slice none 0 0, .slice none 0 0] 30)
        exact hk
      have k1 : Blk ((w.alloc (.cells #[.slice A r.keys.length c, .slice B r.grs.length d] 30)).alloc (.cells #[.slice none 0 0, .slice none 0 0] 30)) (w.heap.size + 1) 30 #[.slice none 0 0, .slice none 0 0] := by
        have hk := Blk.new (w.alloc (.cells #[.slice A r.keys.length c, .slice B r.grs.length d] 30)) 30 #[.slice none 0 0, .slice none 0 0]
        simp only [World.size_alloc] at hk
        exact hk
      have hsw0 : w.heap.size + 2 ≤ ((w.alloc (.cells #[.slice A r.keys.length c, .slice B r.grs.length d] 30)).alloc (.cells #[.slice none 0 0, .slice none 0 0] 30)).heap.size := by simp only [World.size_alloc]; omega
      generalize ((w.alloc (.cells #[.slice A r.keys.length c, .slice B r.grs.length d] 30)).alloc (.cells #[.slice none 0 0, .slice none 0 0] 30)) = w0 at *
      have ck0 := k0.cell
      have fk0 := k0.frozen
      have ck1 := k1.cell
      have fk1 := k1.frozen
      refine (implRingOk_any r _ _ _ _ _ (Nat.le_trans hhi hbw0.size) (sl_keep RInt.loc ha hbw0 hhi) (sl_keep RGr.loc h hbw0 hhi) true (by simp only [true_iff]; exact H1.out.1)).mono ?_
      rintro e w1 ⟨rfl, b1⟩
      replace k0 := blk_keep k0 b1
      replace ck0 := k0.cell
      replace fk0 := k0.frozen
      replace k1 := blk_keep k1 b1
      replace ck1 := k1.cell
      replace fk1 := k1.frozen
      replace hbw0 := below_below hbw0 b1
      go_wp2_with fail
      refine (keyOk_any key _ true (by simp only [true_iff]; exact H1.out.2)).mono ?_
      rintro e w2 ⟨rfl, rfl⟩
      go_wp2_with fail
      refine (guard_any r _ _ _ _ _ (Nat.le_trans hhi hbw0.size) (sl_keep RInt.loc ha hbw0 hhi) (sl_keep RGr.loc h hbw0 hhi) hl1 hl2).mono ?_
      rintro e w2 ⟨g, rfl, o1, b2⟩
      replace k0 := blk_keep k0 b2
      replace ck0 := k0.cell
      replace fk0 := k0.frozen
      replace k1 := blk_keep k1 b2
      replace ck1 := k1.cell
      replace fk1 := k1.frozen
      have z0 := hsw0
      have z1 := b1.size
      replace hbw0 := below_below hbw0 b2
      go_wp2_with fail
      refine (shut_no r mm g _ _ o1 HX.out G64.out).mono ?_
      rintro e w3 ⟨rfl, o3, ch3⟩
      replace k0 := blk_chg k0 ch3 (by omega)
      replace k1 := blk_chg k1 ch3 (by omega)
      have zk := k1.lt
      replace ck0 := k0.cell
      replace ck1 := k1.cell
      replace fk1 := k1.frozen
      replace hbw0 := hbw0.trans (Chg.below ch3 hbw0.size fun i hi hs => by omega)
      go_wp2_with fail
      refine (guard_any r _ _ _ _ _ (Nat.le_trans hhi hbw0.size) (sl_keep RInt.loc ha hbw0 hhi) (sl_keep RGr.loc h hbw0 hhi) hl1 hl2).mono ?_
      rintro e w8 ⟨g8, rfl, o8, b8⟩
      replace k1 := blk_keep k1 b8
      replace ck1 := k1.cell
      replace fk1 := k1.frozen
      have z8 := k1.lt
      replace hbw0 := below_below hbw0 b8
      obtain ⟨hg3, va, vb, kg, og⟩ := o8
      obtain ⟨A3, c3, rfl⟩ := og.keys.form
      obtain ⟨B3, d3, rfl⟩ := og.grs.form
      have cg0 : w8.cell? ⟨g8, 2, none⟩ = some (.slice A3 r.keys.length c3) := kg.cell 2
      have cg1 : w8.cell? ⟨g8, 3, none⟩ = some (.slice B3 r.grs.length d3) := kg.cell 3
      go_wp2_with fail
      exact bodyPost_ret (v := .tuple #[.agg #[_, _], .bool false]) (by simp [results, Try.results41, go_sem, ck1]) rfl ⟨_, _, rfl, ((og.set_ _ (by dsimp only; omega)).set_ _ (by dsimp only; omega)).base (by omega), (hbw0.setCell (by simp) _).setCell (by simp) _⟩
    · have hno : decide (key ∈ r.keys) = true ∨ (decide (key ∈ r.keys) = false ∧ r.keys.length = 9) := by
        by_cases p : key ∈ r.keys
        · exact .inl (decide_eq_true p)
        · refine .inr ⟨decide_eq_false p, ?_⟩
          have hx2 : x.m = mm ∧ x.t = 0 := by simpa using hp
          have : ¬ r.keys.length < 9 := fun h => h2 ⟨⟨p, h⟩, x, List.mem_of_getElem? hk, hx2.1, hx2.2⟩
          have := h1.1.2.2.2
          omega
      have HX := Lib.hid hix; have HK := Lib.hid hk; have HN := Lib.hid hno
      clear h1 h2 hix hk hno hp
      go_enter Try.func41, Try.ntmps41
      go_wp2_with fail
      have hbw0 : Below w.heap.size w ((w.alloc (.cells #[.slice A r.keys.length c, .slice B r.grs.length d] 30)).alloc (.cells #[.slice none 0 0, .slice none 0 0] 30)) := below_alloc' (below_alloc _ _) _
      have k0 : Blk ((w.alloc (.cells #[.slice A r.keys.length c, .slice B r.grs.length d] 30)).alloc (.cells #[.slice none 0 0, .slice none 0 0] 30)) (w.heap.size) 30 #[.slice A r.keys.length c, .slice B r.grs.length d] := by
        have hk := blk_alloc (Blk.new w 30 #[.slice A r.keys.length c, .slice B r.grs.length d]) (.cells #[.slice none 0 0, .slice none 0 0] 30)
        exact hk
      have k1 : Blk ((w.alloc (.cells #[.slice A r.keys.length c, .slice B r.grs.length d] 30)).alloc (.cells #[.slice none 0 0, .slice none 0 0] 30)) (w.heap.size + 1) 30 #[.slice none 0 0, .slice none 0 0] := by
        have hk := Blk.new (w.alloc (.cells #[.slice A r.keys.length c, .slice B r.grs.length d] 30)) 30 #[.slice none 0 0, .slice none 0 0]
        simp only [World.size_alloc] at hk
        exact hk
      have hsw0 : w.heap.size + 2 ≤ ((w.alloc (.cells #[.slice A r.keys.length c, .slice B r.grs.length d] 30)).alloc (.cells #[.slice none 0 0, .slice none 0 0] 30)).heap.size := by simp only [World.size_alloc]; omega
      generalize ((w.alloc (.cells #[.slice A r.keys.length c, .slice B r.grs.length d] 30)).alloc (.cells #[.slice none 0 0, .slice none 0 0] 30)) = w0 at *
      have ck0 := k0.cell
      have fk0 := k0.frozen
      have ck1 := k1.cell
      have fk1 := k1.frozen
      refine (implRingOk_any r _ _ _ _ _ (Nat.le_trans hhi hbw0.size) (sl_keep RInt.loc ha hbw0 hhi) (sl_keep RGr.loc h hbw0 hhi) true (by simp only [true_iff]; exact H1.out.1)).mono ?_
      rintro e w1 ⟨rfl, b1⟩
      replace k0 := blk_keep k0 b1
      replace ck0 := k0.cell
      replace fk0 := k0.frozen
      replace k1 := blk_keep k1 b1
      replace ck1 := k1.cell
      replace fk1 := k1.frozen
      replace hbw0 := below_below hbw0 b1
      go_wp2_with fail
      refine (keyOk_any key _ true (by simp only [true_iff]; exact H1.out.2)).mono ?_
      rintro e w2 ⟨rfl, rfl⟩
      go_wp2_with fail
      refine (guard_any r _ _ _ _ _ (Nat.le_trans hhi hbw0.size) (sl_keep RInt.loc ha hbw0 hhi) (sl_keep RGr.loc h hbw0 hhi) hl1 hl2).mono ?_
      rintro e w2 ⟨g, rfl, o1, b2⟩
      replace k0 := blk_keep k0 b2
      replace ck0 := k0.cell
      replace fk0 := k0.frozen
      replace k1 := blk_keep k1 b2
      replace ck1 := k1.cell
      replace fk1 := k1.frozen
      have z0 := hsw0
      have z1 := b1.size
      replace hbw0 := below_below hbw0 b2
      go_wp2_with fail
      refine (shut_yes r mm g _ _ o1 k x HK.out HX.out G64.out).mono ?_
      rintro e w3 ⟨rfl, o3, ch3⟩
      replace k0 := blk_chg k0 ch3 (by omega)
      replace k1 := blk_chg k1 ch3 (by omega)
      have zk := k1.lt
      replace ck0 := k0.cell
      replace ck1 := k1.cell
      replace fk1 := k1.frozen
      replace hbw0 := hbw0.trans (Chg.below ch3 hbw0.size fun i hi hs => by omega)
      go_wp2_with fail
      refine (turn_no ⟨r.keys, r.grs.set k ⟨x.m, x.f, r.keys.length⟩⟩ key g _ _ o3 HN.out H64.out).mono ?_
      rintro e w4 ⟨rfl, o4, ch4⟩
      replace k0 := blk_chg k0 ch4 (by omega)
      replace k1 := blk_chg k1 ch4 (by omega)
      have zk := k1.lt
      replace ck0 := k0.cell
      replace ck1 := k1.cell
      replace fk1 := k1.frozen
      replace hbw0 := hbw0.trans (Chg.below ch4 hbw0.size fun i hi hs => by omega)
      go_wp2_with fail
      refine (guard_any r _ _ _ _ _ (Nat.le_trans hhi hbw0.size) (sl_keep RInt.loc ha hbw0 hhi) (sl_keep RGr.loc h hbw0 hhi) hl1 hl2).mono ?_
      rintro e w8 ⟨g8, rfl, o8, b8⟩
      replace k1 := blk_keep k1 b8
      replace ck1 := k1.cell
      replace fk1 := k1.frozen
      have z8 := k1.lt
      replace hbw0 := below_below hbw0 b8
      obtain ⟨hg3, va, vb, kg, og⟩ := o8
      obtain ⟨A3, c3, rfl⟩ := og.keys.form
      obtain ⟨B3, d3, rfl⟩ := og.grs.form
      have cg0 : w8.cell? ⟨g8, 2, none⟩ = some (.slice A3 r.keys.length c3) := kg.cell 2
      have cg1 : w8.cell? ⟨g8, 3, none⟩ = some (.slice B3 r.grs.length d3) := kg.cell 3
      go_wp2_with fail
      exact bodyPost_ret (v := .tuple #[.agg #[_, _], .bool false]) (by simp [results, Try.results41, go_sem, ck1]) rfl ⟨_, _, rfl, ((og.set_ _ (by dsimp only; omega)).set_ _ (by dsimp only; omega)).base (by omega), (hbw0.setCell (by simp) _).setCell (by simp) _⟩
  · by_cases p : ringP r
    · have H1 := Lib.hid h1; clear h1
      have P := Lib.hid p; clear p
      have hk : ¬ (1 ≤ key ∧ key ≤ 99) := fun hk => H1.out ⟨P.out, hk⟩
      have HK := Lib.hid hk; clear hk
      go_enter Try.func41, Try.ntmps41
      go_wp2_with fail
      have hbw0 : Below w.heap.size w ((w.alloc (.cells #[.slice A r.keys.length c, .slice B r.grs.length d] 30)).alloc (.cells #[.slice none 0 0, .slice none 0 0] 30)) := below_alloc' (below_alloc _ _) _
      have k0 : Blk ((w.alloc (.cells #[.slice A r.keys.length c, .slice B r.grs.length d] 30)).alloc (.cells #[.slice none 0 0, .slice none 0 0] 30)) (w.heap.size) 30 #[.slice A r.keys.length c, .slice B r.grs.length d] := by
        have hk := blk_alloc (Blk.new w 30 #[.slice A r.keys.length c, .slice B r.grs.length d]) (.cells #[.slice none 0 0, .slice none 0 0] 30)
        exact hk
      have k1 : Blk ((w.alloc (.cells #[.slice A r.keys.length c, .slice B r.grs.length d] 30)).alloc (.cells #[.slice none 0 0, .slice none 0 0] 30)) (w.heap.size + 1) 30 #[.slice none 0 0, .slice none 0 0] := by
        have hk := Blk.new (w.alloc (.cells #[.slice A r.keys.length c, .slice B r.grs.length d] 30)) 30 #[.slice none 0 0, .slice none 0 0]
        simp only [World.size_alloc] at hk
        exact hk
      have hsw0 : w.heap.size + 2 ≤ ((w.alloc (.cells #[.slice A r.keys.length c, .slice B r.grs.length d] 30)).alloc (.cells #[.slice none 0 0, .slice none 0 0] 30)).heap.size := by simp only [World.size_alloc]; omega
      generalize ((w.alloc (.cells #[.slice A r.keys.length c, .slice B r.grs.length d] 30)).alloc (.cells #[.slice none 0 0, .slice none 0 0] 30)) = w0 at *
      have ck0 := k0.cell
      have fk0 := k0.frozen
      have ck1 := k1.cell
      have fk1 := k1.frozen
      refine (implRingOk_any r _ _ _ _ _ (Nat.le_trans hhi hbw0.size) (sl_keep RInt.loc ha hbw0 hhi) (sl_keep RGr.loc h hbw0 hhi) true (by simp only [true_iff]; exact P.out)).mono ?_
      rintro e w1 ⟨rfl, b1⟩
      replace k0 := blk_keep k0 b1
      replace ck0 := k0.cell
      replace fk0 := k0.frozen
      replace k1 := blk_keep k1 b1
      replace ck1 := k1.cell
      replace fk1 := k1.frozen
      replace hbw0 := below_below hbw0 b1
      go_wp2_with fail
      refine (keyOk_any key _ false (by simp only [Bool.false_eq_true, false_iff]; exact HK.out)).mono ?_
      rintro e w2 ⟨rfl, rfl⟩
      go_wp2_with fail
      exact bodyPost_ret (v := .tuple #[.agg #[.slice none 0 0, .slice none 0 0], .bool false]) (by simp [results, Try.results41, go_sem, ck1]) rfl ⟨_, _, rfl, OwnRg.nil _ _, (hbw0.setCell (by simp) _).setCell (by simp) _⟩
    · have P := Lib.hid p; clear p h1
      go_enter Try.func41, Try.ntmps41
      go_wp2_with fail
      have hbw0 : Below w.heap.size w ((w.alloc (.cells #[.slice A r.keys.length c, .slice B r.grs.length d] 30)).alloc (.cells #[.slice none 0 0, .slice none 0 0] 30)) := below_alloc' (below_alloc _ _) _
      have k0 : Blk ((w.alloc (.cells #[.slice A r.keys.length c, .slice B r.grs.length d] 30)).alloc (.cells #[.slice none 0 0, .slice none 0 0] 30)) (w.heap.size) 30 #[.slice A r.keys.length c, .slice B r.grs.length d] := by
        have hk := blk_alloc (Blk.new w 30 #[.slice A r.keys.length c, .slice B r.grs.length d]) (.cells #[.slice none 0 0, .slice none 0 0] 30)
        exact hk
      have k1 : Blk ((w.alloc (.cells #[.slice A r.keys.length c, .slice B r.grs.length d] 30)).alloc (.cells #[.slice none 0 0, .slice none 0 0] 30)) (w.heap.size + 1) 30 #[.slice none 0 0, .slice none 0 0] := by
        have hk := Blk.new (w.alloc (.cells #[.slice A r.keys.length c, .slice B r.grs.length d] 30)) 30 #[.slice none 0 0, .slice none 0 0]
        simp only [World.size_alloc] at hk
        exact hk
      have hsw0 : w.heap.size + 2 ≤ ((w.alloc (.cells #[.slice A r.keys.length c, .slice B r.grs.length d] 30)).alloc (.cells #[.slice none 0 0, .slice none 0 0] 30)).heap.size := by simp only [World.size_alloc]; omega
      generalize ((w.alloc (.cells #[.slice A r.keys.length c, .slice B r.grs.length d] 30)).alloc (.cells #[.slice none 0 0, .slice none 0 0] 30)) = w0 at *
      have ck0 := k0.cell
      have fk0 := k0.frozen
      have ck1 := k1.cell
      have fk1 := k1.frozen
      refine (implRingOk_any r _ _ _ _ _ (Nat.le_trans hhi hbw0.size) (sl_keep RInt.loc ha hbw0 hhi) (sl_keep RGr.loc h hbw0 hhi) false (by simp only [Bool.false_eq_true, false_iff]; exact P.out)).mono ?_
      rintro e w1 ⟨rfl, b1⟩
      replace k0 := blk_keep k0 b1
      replace ck0 := k0.cell
      replace fk0 := k0.frozen
      replace k1 := blk_keep k1 b1
      replace ck1 := k1.cell
      replace fk1 := k1.frozen
      replace hbw0 := below_below hbw0 b1
      go_wp2_with fail
      exact bodyPost_ret (v := .tuple #[.agg #[.slice none 0 0, .slice none 0 0], .bool false]) (by simp [results, Try.results41, go_sem, ck1]) rfl ⟨_, _, rfl, OwnRg.nil _ _, (hbw0.setCell (by simp) _).setCell (by simp) _⟩
end Go.Proofs.Ytdbeclnoaeiaeaa
