


/- The law FnRingForm: each key is there once, each machine, too. No condition. -/
import Derived.Test.YtdbeclnoaeiaeaaLaw
import Derived.Test.YtdbeclnoaeiaeaaDrX
import Derived.Test.YtdbeclnoaeiaeaaRgI
import Derived.Test.YtdbeclnoaeiaeaaEf
import Derived.Test.YtdbeclnoaeiaeaaHeard
import Derived.Test.YtdbeclnoaeiaeaaEnter
import Derived.Test.YtdbeclnoaeiaeaaMake
namespace Go.Proofs.Ytdbeclnoaeiaeaa.lawrf
open Go.RowKit Go.ChangeShapes Go.WideShapes Go.ChangeAt

theorem form_a {r : Rg} {k : Int} (hk : r.keys[0]? = some k) : ¬ ringP ⟨r.keys ++ [k], r.grs⟩ := fun h => (keysP_snoc.1 h.1).2.2 (List.mem_of_getElem? hk)
theorem form_b (ks : List Int) : ¬ ringP ⟨ks, [⟨1, 1, 0⟩, ⟨1, 1, 0⟩]⟩ := fun h => by
  have := (List.pairwise_cons.1 h.2.1.2).1 ⟨1, 1, 0⟩ (by simp)
  simp at this
theorem form_c (ks : List Int) : ¬ ringP ⟨ks, [⟨1, (ks.length : Int) + 1, 0⟩]⟩ := fun h => by
  have := (h.2.1.1 ⟨1, (ks.length : Int) + 1, 0⟩ (by simp)).2.2.2.1
  simp only at this
  omega
theorem form_d : ¬ ringP ⟨[], []⟩ := fun h => by
  have := h.2.2.1
  simp at this
theorem lit_grs {w : World} {b : Nat} (base : Nat) (hb : base ≤ b) (xs : List Gr) (hk : Blk w b 37 (flats FGr xs).toArray) (hn : xs.length ≤ 100) : OwnF FGr 37 w base (.slice (some ⟨b, 0, none⟩) xs.length xs.length) xs :=
  ⟨flats_len FGr xs, .inr ⟨b, xs.length, _, rfl, hb, hk, Nat.le_refl _, by unfold maxLen; omega, by simp [flats_len], by rw [List.toList_toArray]; exact List.take_of_length_le (Nat.le_of_eq (flats_len FGr xs))⟩⟩
theorem sl_wide {α : Type} {E : Rep α} (hE : Loc E) {sz : Nat} {w : World} {lo hi lo' hi' : Nat} {xs : List α} {cs : List Value} (h : RSl E sz w lo hi xs cs) (h1 : lo' ≤ lo) (h2 : hi ≤ hi') : RSl E sz w lo' hi' xs cs :=
  (RSl.loc hE).go (fun _ _ _ => rfl) h1 h2 h
set_option maxHeartbeats 4000000 in
theorem walk (l : List Int) {v : Value} {w : World} (h : RSl RByte 1 w 0 w.heap.size l [v]) (w' : World) (hw : w' = w := by rfl) :
    Calls Try.prog 4 #[v] w' fun e w' => e = .returned (.bool true) ∧ Below w.heap.size w w' := by
  subst hw
  obtain ⟨A, c, rfl⟩ := h.form
  have hlen : l.length ≤ maxLen := by obtain ⟨_, h1, h2⟩ := h.len_; omega
  unfold maxLen at hlen
  by_cases hbig : 1048576 < l.length
  · go_enter Try.func4, Try.ntmps4
    go_wp2_with fail
    go_ret
    exact ⟨rfl, Below.refl _ _⟩
  go_enter Try.func4, Try.ntmps4
  go_wp2_with fail
  refine (drawRingOk_any l A _ c _ h).mono ?_
  rintro e w1 ⟨va, vb, rr, rfl, o1, f1, hbw⟩
  have hkl := f1.keys
  have hgl := f1.grs
  have hpos := f1.pos
  have HF := Lib.hid f1; clear f1
  obtain ⟨A1, c1, rfl⟩ := o1.keys.form
  obtain ⟨B1, d1, rfl⟩ := o1.grs.form
  obtain ⟨rs1, rs2⟩ := o1.reads HF.out.good
  have hhi := Nat.le_refl w1.heap.size
  go_wp2_with fail
  have hbw2 : Below w1.heap.size w1 (w1.alloc (.cells #[.slice A1 rr.keys.length c1, .slice B1 rr.grs.length d1] 30)) := below_alloc _ _
  have k0 : Blk (w1.alloc (.cells #[.slice A1 rr.keys.length c1, .slice B1 rr.grs.length d1] 30)) (w1.heap.size) 30 #[.slice A1 rr.keys.length c1, .slice B1 rr.grs.length d1] := by
    have hk := Blk.new w1 30 #[.slice A1 rr.keys.length c1, .slice B1 rr.grs.length d1]
    exact hk
  have hsw2 : w1.heap.size + 1 ≤ (w1.alloc (.cells #[.slice A1 rr.keys.length c1, .slice B1 rr.grs.length d1] 30)).heap.size := by simp only [World.size_alloc]; omega
  generalize (w1.alloc (.cells #[.slice A1 rr.keys.length c1, .slice B1 rr.grs.length d1] 30)) = w2 at *
  have ck0 := k0.cell
  have fk0 := k0.frozen
  replace rs1 := sl_keep RInt.loc rs1 hbw2 hhi
  replace rs2 := sl_keep RGr.loc rs2 hbw2 hhi
  replace hhi := Nat.le_trans hhi hbw2.size
  replace hbw := below_below hbw hbw2
  by_cases hP : ringP rr
  · have HP := Lib.hid hP; clear hP
    refine (implRingOk_any rr _ _ _ _ _ hhi rs1 rs2 true (by simp only [true_iff]; exact HP.out)).mono ?_
    rintro e w3 ⟨rfl, b3⟩
    replace rs1 := sl_keep RInt.loc rs1 b3 hhi
    replace rs2 := sl_keep RGr.loc rs2 b3 hhi
    replace hhi := Nat.le_trans hhi b3.size
    replace hbw := below_below hbw b3
    replace k0 := blk_keep k0 b3
    replace ck0 := k0.cell
    replace fk0 := k0.frozen
    go_wp2_with fail
    refine (specRingOk_any rr _ _ _ _ _ hhi rs1 rs2 true (by simp only [true_iff]; exact HP.out)).mono ?_
    rintro e w4 ⟨rfl, b4⟩
    replace rs1 := sl_keep RInt.loc rs1 b4 hhi
    replace rs2 := sl_keep RGr.loc rs2 b4 hhi
    replace hhi := Nat.le_trans hhi b4.size
    replace hbw := below_below hbw b4
    replace k0 := blk_keep k0 b4
    replace ck0 := k0.cell
    replace fk0 := k0.frozen
    obtain ⟨x0, hx0⟩ := some_of_lt (l := rr.keys) (k := 0) (by omega)
    obtain ⟨bk, off, rfl, _, _, _, hcell⟩ := rs1.ints_at hx0
    have HX := Lib.hid hx0; clear hx0
    rw [Nat.add_zero] at hcell
    have hlt : (0 : Int) < (rr.keys.length : Int) := by omega
    have ca0 : w4.cell? ⟨w1.heap.size, 0, none⟩ = some (.slice (some ⟨bk, off, none⟩) rr.keys.length c1) := k0.cell 0
    have ca1 : w4.cell? ⟨w1.heap.size, 1, none⟩ = some (.slice B1 rr.grs.length d1) := k0.cell 1
    go_wp2_with fail
    have past0 : ∀ x : PastE w4 9 3 (fun _ => False) [3], _ := paste_cell ca0 (fun h => h)
    have past1 : ∀ x : PastE w4 9 3 (fun _ => False) [3], _ := paste_cell ca1 (fun h => h)
    have past2 : ∀ x : PastE w4 9 3 (fun _ => False) [3], _ := paste_cell hcell (fun h => h)
    refine region_efT 9 3 (fun _ => False) [3] 14 [1, 2, 4, 5, 6, 7, 10, 11] [0, 3, 8, 9, 12, 13] (by kernel_rfl) (by kernel_rfl) (by kernel_rfl) ?_
    simp only [pick, List.map, List.getD_cons_zero, List.getD_cons_succ]
    repeat (go_big_quiet_step (fail))
    refine wpQuiet_nil ?_
    clear past0 past1 past2
    apply Exists.intro
    apply ef_any (fun v x => x.done = false → Lit0 w4.heap.size 3 v x.to)
    · rfl
    · exact fun v x y h hl hd => (h (hl.till hd).1).keep (hl.till hd).2
    · intro x _ _ Qx hQ'
      have hQ := Lib.hid hQ'; clear hQ'
      go_wp2_with fail
      exact hQ.out _ _ (below_alloc _ _) fun _ => Lit0.new _ _ x.ok.size
    intro u2
    simp only [Act.put, List.setIfInBounds_toArray, List.set_cons_zero, List.set_cons_succ]
    apply ef_any (fun v x => x.done = false → OwnF FInt 3 x.to w4.heap.size v (rr.keys))
    · rfl
    · exact fun v x y h hl hd => (h (hl.till hd).1).below (hl.till hd).2
    · intro x hF hp Qx hQ'
      have hQ := Lib.hid hQ'; clear hQ'
      have hdn := hp (by decide)
      have hL := hF.1 (by kernel_rfl) hdn
      exact app_copy (x.till hdn) rfl (.tmp 27) (.tmp 29) 22 rfl elem_int (Nat.le_refl _) rfl rfl hL (src_flat (F := FInt) rs1 hhi) (by omega) fun v' x' hle ho => wpList_nil (hQ.out _ _ hle fun _ => ho)
    intro u5
    simp only [Act.put, List.setIfInBounds_toArray, List.set_cons_zero, List.set_cons_succ]
    apply ef_any (fun v x => x.done = false → ∃ b, v = .slice (some ⟨b, 0, none⟩) 1 1 ∧ Blk x.to b 3 #[.int .i64 x0])
    · rfl
    · exact fun v x y h hl hd => by
        obtain ⟨b, e, hk⟩ := h (hl.till hd).1
        exact ⟨b, e, blk_keep hk (hl.till hd).2⟩
    · intro x _ _ Qx hQ'
      have hQ := Lib.hid hQ'; clear hQ'
      go_wp2_with fail
      exact hQ.out _ _ (below_alloc _ _) fun _ => ⟨_, rfl, Blk.new _ _ _⟩
    intro u7
    simp only [Act.put, List.setIfInBounds_toArray, List.set_cons_zero, List.set_cons_succ]
    apply ef_eff (fun v x => x.done = true ∧ OwnF FInt 3 x.to w4.heap.size v (rr.keys ++ [x0]))
    · rfl
    · rfl
    · intro j hj
      obtain rfl := List.mem_singleton.1 hj
      exact behind_of 9 _ _ (by kernel_rfl)
    · exact fun v x y ⟨hd, ho⟩ hl => ⟨(hl.from_ hd).1, ho.below (hl.from_ hd).2⟩
    · intro x hF hdn Qx hQ'
      have hQ := Lib.hid hQ'; clear hQ'
      obtain ⟨b, rfl, hkb⟩ := hF.1 (by kernel_rfl) hdn
      have hO := hF.2.1 (by kernel_rfl) hdn
      refine app_flatB (F := FInt) rfl (.tmp 30) (.tmp 35) 22 rfl elem_int x0 rfl hO rfl hkb rfl (by omega) x.ok.size ?_
      intro v8 w8 o8 ch8 at8
      refine wpList_nil ?_
      exact hQ.out _ _ (ch8.mono fun b _ hb => .inr (own_ty hO hb)) ⟨rfl, o8⟩
    intro u8
    simp only [Act.put, List.setIfInBounds_toArray, List.set_cons_zero, List.set_cons_succ]
    apply ef_any (fun v x => x.done = true ∧ ∃ A n m, v = .agg #[.slice A n m, .slice B1 rr.grs.length d1] ∧ OwnF FInt 3 x.to w4.heap.size (.slice A n m) (rr.keys ++ [x0]))
    · rfl
    · exact fun v x y ⟨hd, A, n, m, e, ho⟩ hl => ⟨(hl.from_ hd).1, A, n, m, e, ho.below (hl.from_ hd).2⟩
    · intro x hF _ Qx hQ'
      have hQ := Lib.hid hQ'; clear hQ'
      obtain ⟨hdn, hO⟩ := hF.1 (by kernel_rfl)
      obtain ⟨A5, c5, rfl⟩ := hO.form
      clear hF
      generalize (rr.keys ++ [x0]).length = n5 at *
      go_wp2_with fail
      exact hQ.out _ _ (Below.refl _ _) ⟨hdn, _, _, _, rfl, hO⟩
    intro u12
    simp only [Act.put, List.setIfInBounds_toArray, List.set_cons_zero, List.set_cons_succ]
    apply ef_any (fun v x => ∃ b, v = .pointer (some ⟨b, 0, none⟩) ∧ w4.heap.size ≤ b ∧ Blk x.to b 30 #[.slice none 0 0, .slice none 0 0])
    · rfl
    · exact fun v x y ⟨b, e, hb, hk⟩ hl => ⟨b, e, hb, hl.blk hk (by decide) (fun h => h)⟩
    · intro x _ _ Qx hQ'
      have hQ := Lib.hid hQ'; clear hQ'
      go_wp2_with fail
      exact hQ.out _ _ (below_alloc _ _) ⟨_, rfl, x.ok.size, Blk.new _ _ _⟩
    intro u13
    simp only [Act.put, List.setIfInBounds_toArray, List.set_cons_zero, List.set_cons_succ]
    refine ef_end fun x hF => ?_
    simp only [allF] at hF
    obtain ⟨⟨b5, rfl, hb5, kb⟩, ⟨-, A5, n5, m5, rfl, oa⟩, -⟩ := hF
    have hx := x.all fun _ h => h
    simp only [List.drop]
    revert hx kb oa
    generalize x.to = w5
    clear x
    intro kb oa hx
    have rs1' := rs1
    have rs2' := rs2
    have hhi' := hhi
    have hbw' := hbw
    replace rs1 := sl_keep RInt.loc rs1 hx hhi
    replace rs2 := sl_keep RGr.loc rs2 hx hhi
    replace hhi := Nat.le_trans hhi hx.size
    replace hbw := below_below hbw hx
    replace k0 := blk_keep k0 hx
    replace ck0 := k0.cell
    replace fk0 := k0.frozen
    have z4 := b4.size
    have z3 := b3.size
    have hne1 : w1.heap.size ≠ b5 := by omega
    have hne2 : b5 ≠ w1.heap.size := by omega
    have ckb := kb.cell
    have fkb := kb.frozen
    have kA : Blk ((w5.setCell ⟨b5, 0, none⟩ (.slice A5 n5 m5)).setCell ⟨b5, 1, none⟩ (.slice B1 rr.grs.length d1)) w1.heap.size 30 #[.slice (some ⟨bk, off, none⟩) rr.keys.length c1, .slice B1 rr.grs.length d1] := blk_ne (blk_ne k0 (p := ⟨b5, 0, none⟩) _ hne1) (p := ⟨b5, 1, none⟩) _ hne1
    have ckA := kA.cell
    have kC := blk_keep (blk_keep kA (below_alloc _ (.cells #[.int .i64 1, .int .i64 1, .int .i64 0, .int .i64 1, .int .i64 1, .int .i64 0] 37))) (below_alloc _ (.cells #[.slice (some ⟨bk, off, none⟩) rr.keys.length c1, .slice (some ⟨w5.heap.size, 0, none⟩) 2 2] 30))
    have ckC := kC.cell
    have kbA : Blk ((w5.setCell ⟨b5, 0, none⟩ (.slice A5 n5 m5)).setCell ⟨b5, 1, none⟩ (.slice B1 rr.grs.length d1)) b5 30 #[.slice A5 n5 m5, .slice B1 rr.grs.length d1] := (kb.set_ 0 _).set_ 1 _
    have kbE := blk_keep (blk_keep (blk_keep (blk_keep kbA (below_alloc _ (.cells #[.int .i64 1, .int .i64 1, .int .i64 0, .int .i64 1, .int .i64 1, .int .i64 0] 37))) (below_alloc _ (.cells #[.slice (some ⟨bk, off, none⟩) rr.keys.length c1, .slice (some ⟨w5.heap.size, 0, none⟩) 2 2] 30))) (below_alloc _ (.cells #[.int .i64 1, .int .i64 ((rr.keys.length : Int) + 1), .int .i64 0] 37))) (below_alloc _ (.cells #[.slice (some ⟨bk, off, none⟩) rr.keys.length c1, .slice (some ⟨w5.heap.size + 1 + 1, 0, none⟩) 1 1] 30))
    have ckE := kbE.cell
    have hsz : ((w5.setCell ⟨b5, 0, none⟩ (.slice A5 n5 m5)).setCell ⟨b5, 1, none⟩ (.slice B1 rr.grs.length d1)).heap.size = w5.heap.size := by simp
    have hbA : Below w4.heap.size w4 ((w5.setCell ⟨b5, 0, none⟩ (.slice A5 n5 m5)).setCell ⟨b5, 1, none⟩ (.slice B1 rr.grs.length d1)) := (hx.setCell (by show w4.heap.size ≤ b5; exact hb5) _).setCell (by show w4.heap.size ≤ b5; exact hb5) _
    have oaA : OwnF FInt 3 ((w5.setCell ⟨b5, 0, none⟩ (.slice A5 n5 m5)).setCell ⟨b5, 1, none⟩ (.slice B1 rr.grs.length d1)) w4.heap.size (.slice A5 n5 m5) (rr.keys ++ [x0]) := oa.chg (chg_two w5 b5 _ _) (rg_blk_ne oa kb (by decide))
    have rs1A := sl_keep RInt.loc rs1' hbA hhi'
    have rs2A := sl_keep RGr.loc rs2' hbA hhi'
    have hbwA := below_below hbw' hbA
    have HSZ := Lib.hid hsz; clear hsz
    go_wp2_with fail
    have hsz := HSZ.out; clear HSZ
    generalize ((w5.setCell ⟨b5, 0, none⟩ (.slice A5 n5 m5)).setCell ⟨b5, 1, none⟩ (.slice B1 rr.grs.length d1)) = wA at *
    simp only [← hsz]
    have hbwE : Below wA.heap.size wA ((((wA.alloc (.cells #[.int .i64 1, .int .i64 1, .int .i64 0, .int .i64 1, .int .i64 1, .int .i64 0] 37)).alloc (.cells #[.slice (some ⟨bk, off, none⟩) rr.keys.length c1, .slice (some ⟨wA.heap.size, 0, none⟩) 2 2] 30)).alloc (.cells #[.int .i64 1, .int .i64 ((rr.keys.length : Int) + 1), .int .i64 0] 37)).alloc (.cells #[.slice (some ⟨bk, off, none⟩) rr.keys.length c1, .slice (some ⟨wA.heap.size + 1 + 1, 0, none⟩) 1 1] 30)) := below_alloc' (below_alloc' (below_alloc' (below_alloc _ _) _) _) _
    have q0 : Blk ((((wA.alloc (.cells #[.int .i64 1, .int .i64 1, .int .i64 0, .int .i64 1, .int .i64 1, .int .i64 0] 37)).alloc (.cells #[.slice (some ⟨bk, off, none⟩) rr.keys.length c1, .slice (some ⟨wA.heap.size, 0, none⟩) 2 2] 30)).alloc (.cells #[.int .i64 1, .int .i64 ((rr.keys.length : Int) + 1), .int .i64 0] 37)).alloc (.cells #[.slice (some ⟨bk, off, none⟩) rr.keys.length c1, .slice (some ⟨wA.heap.size + 1 + 1, 0, none⟩) 1 1] 30)) (wA.heap.size) 37 #[.int .i64 1, .int .i64 1, .int .i64 0, .int .i64 1, .int .i64 1, .int .i64 0] := by
      have hk := blk_alloc (blk_alloc (blk_alloc (Blk.new wA 37 #[.int .i64 1, .int .i64 1, .int .i64 0, .int .i64 1, .int .i64 1, .int .i64 0]) (.cells #[.slice (some ⟨bk, off, none⟩) rr.keys.length c1, .slice (some ⟨wA.heap.size, 0, none⟩) 2 2] 30)) (.cells #[.int .i64 1, .int .i64 ((rr.keys.length : Int) + 1), .int .i64 0] 37)) (.cells #[.slice (some ⟨bk, off, none⟩) rr.keys.length c1, .slice (some ⟨wA.heap.size + 1 + 1, 0, none⟩) 1 1] 30)
      exact hk
    have q1 : Blk ((((wA.alloc (.cells #[.int .i64 1, .int .i64 1, .int .i64 0, .int .i64 1, .int .i64 1, .int .i64 0] 37)).alloc (.cells #[.slice (some ⟨bk, off, none⟩) rr.keys.length c1, .slice (some ⟨wA.heap.size, 0, none⟩) 2 2] 30)).alloc (.cells #[.int .i64 1, .int .i64 ((rr.keys.length : Int) + 1), .int .i64 0] 37)).alloc (.cells #[.slice (some ⟨bk, off, none⟩) rr.keys.length c1, .slice (some ⟨wA.heap.size + 1 + 1, 0, none⟩) 1 1] 30)) (wA.heap.size + 1) 30 #[.slice (some ⟨bk, off, none⟩) rr.keys.length c1, .slice (some ⟨wA.heap.size, 0, none⟩) 2 2] := by
      have hk := blk_alloc (blk_alloc (Blk.new (wA.alloc (.cells #[.int .i64 1, .int .i64 1, .int .i64 0, .int .i64 1, .int .i64 1, .int .i64 0] 37)) 30 #[.slice (some ⟨bk, off, none⟩) rr.keys.length c1, .slice (some ⟨wA.heap.size, 0, none⟩) 2 2]) (.cells #[.int .i64 1, .int .i64 ((rr.keys.length : Int) + 1), .int .i64 0] 37)) (.cells #[.slice (some ⟨bk, off, none⟩) rr.keys.length c1, .slice (some ⟨wA.heap.size + 1 + 1, 0, none⟩) 1 1] 30)
      simp only [World.size_alloc] at hk
      exact hk
    have q2 : Blk ((((wA.alloc (.cells #[.int .i64 1, .int .i64 1, .int .i64 0, .int .i64 1, .int .i64 1, .int .i64 0] 37)).alloc (.cells #[.slice (some ⟨bk, off, none⟩) rr.keys.length c1, .slice (some ⟨wA.heap.size, 0, none⟩) 2 2] 30)).alloc (.cells #[.int .i64 1, .int .i64 ((rr.keys.length : Int) + 1), .int .i64 0] 37)).alloc (.cells #[.slice (some ⟨bk, off, none⟩) rr.keys.length c1, .slice (some ⟨wA.heap.size + 1 + 1, 0, none⟩) 1 1] 30)) (wA.heap.size + 1 + 1) 37 #[.int .i64 1, .int .i64 ((rr.keys.length : Int) + 1), .int .i64 0] := by
      have hk := blk_alloc (Blk.new ((wA.alloc (.cells #[.int .i64 1, .int .i64 1, .int .i64 0, .int .i64 1, .int .i64 1, .int .i64 0] 37)).alloc (.cells #[.slice (some ⟨bk, off, none⟩) rr.keys.length c1, .slice (some ⟨wA.heap.size, 0, none⟩) 2 2] 30)) 37 #[.int .i64 1, .int .i64 ((rr.keys.length : Int) + 1), .int .i64 0]) (.cells #[.slice (some ⟨bk, off, none⟩) rr.keys.length c1, .slice (some ⟨wA.heap.size + 1 + 1, 0, none⟩) 1 1] 30)
      simp only [World.size_alloc] at hk
      exact hk
    have q3 : Blk ((((wA.alloc (.cells #[.int .i64 1, .int .i64 1, .int .i64 0, .int .i64 1, .int .i64 1, .int .i64 0] 37)).alloc (.cells #[.slice (some ⟨bk, off, none⟩) rr.keys.length c1, .slice (some ⟨wA.heap.size, 0, none⟩) 2 2] 30)).alloc (.cells #[.int .i64 1, .int .i64 ((rr.keys.length : Int) + 1), .int .i64 0] 37)).alloc (.cells #[.slice (some ⟨bk, off, none⟩) rr.keys.length c1, .slice (some ⟨wA.heap.size + 1 + 1, 0, none⟩) 1 1] 30)) (wA.heap.size + 1 + 1 + 1) 30 #[.slice (some ⟨bk, off, none⟩) rr.keys.length c1, .slice (some ⟨wA.heap.size + 1 + 1, 0, none⟩) 1 1] := by
      have hk := Blk.new (((wA.alloc (.cells #[.int .i64 1, .int .i64 1, .int .i64 0, .int .i64 1, .int .i64 1, .int .i64 0] 37)).alloc (.cells #[.slice (some ⟨bk, off, none⟩) rr.keys.length c1, .slice (some ⟨wA.heap.size, 0, none⟩) 2 2] 30)).alloc (.cells #[.int .i64 1, .int .i64 ((rr.keys.length : Int) + 1), .int .i64 0] 37)) 30 #[.slice (some ⟨bk, off, none⟩) rr.keys.length c1, .slice (some ⟨wA.heap.size + 1 + 1, 0, none⟩) 1 1]
      simp only [World.size_alloc] at hk
      exact hk
    have hswE : wA.heap.size + 4 ≤ ((((wA.alloc (.cells #[.int .i64 1, .int .i64 1, .int .i64 0, .int .i64 1, .int .i64 1, .int .i64 0] 37)).alloc (.cells #[.slice (some ⟨bk, off, none⟩) rr.keys.length c1, .slice (some ⟨wA.heap.size, 0, none⟩) 2 2] 30)).alloc (.cells #[.int .i64 1, .int .i64 ((rr.keys.length : Int) + 1), .int .i64 0] 37)).alloc (.cells #[.slice (some ⟨bk, off, none⟩) rr.keys.length c1, .slice (some ⟨wA.heap.size + 1 + 1, 0, none⟩) 1 1] 30)).heap.size := by simp only [World.size_alloc]; omega
    generalize ((((wA.alloc (.cells #[.int .i64 1, .int .i64 1, .int .i64 0, .int .i64 1, .int .i64 1, .int .i64 0] 37)).alloc (.cells #[.slice (some ⟨bk, off, none⟩) rr.keys.length c1, .slice (some ⟨wA.heap.size, 0, none⟩) 2 2] 30)).alloc (.cells #[.int .i64 1, .int .i64 ((rr.keys.length : Int) + 1), .int .i64 0] 37)).alloc (.cells #[.slice (some ⟨bk, off, none⟩) rr.keys.length c1, .slice (some ⟨wA.heap.size + 1 + 1, 0, none⟩) 1 1] 30)) = wE at *
    have cq0 := q0.cell
    have fq0 := q0.frozen
    have cq1 := q1.cell
    have fq1 := q1.frozen
    have cq2 := q2.cell
    have fq2 := q2.frozen
    have cq3 := q3.cell
    have fq3 := q3.frozen
    have zA := hbA.size
    have zE := hbwE.size
    have hbwF := below_below hbwA hbwE
    have oaE := oaA.below hbwE
    have hgk : ∀ y ∈ rr.keys ++ [x0], In64 y := fun y hy => by
      rcases List.mem_append.1 hy with hy | hy
      · exact HF.out.good.keys y hy
      · rw [List.mem_singleton.1 hy]; exact HF.out.good.keys _ (List.mem_of_getElem? HX.out)
    have sa := oaE.sl hgk (Nat.le_refl _)
    have t2 := sl_keep RGr.loc rs2A hbwE (by omega)
    have t1 := sl_keep RInt.loc rs1A hbwE (by omega)
    have hh : w1.heap.size ≤ wE.heap.size := by omega
    clear hsz kA ckA kC ckC kbA kbE ckE hgk
    refine (implRingOk_any ⟨rr.keys ++ [x0], rr.grs⟩ (.slice A5 n5 m5) (.slice B1 rr.grs.length d1) wE w'.heap.size wE.heap.size (Nat.le_refl _) (sl_wide RInt.loc sa (by omega) (Nat.le_refl _)) (sl_wide RGr.loc t2 (Nat.le_refl _) hh) false (by simp only [Bool.false_eq_true, false_iff]; exact form_a HX.out)).mono ?_
    rintro e wF ⟨rfl, bF⟩
    replace q0 := blk_keep q0 bF
    replace cq0 := q0.cell
    replace fq0 := q0.frozen
    replace q1 := blk_keep q1 bF
    replace cq1 := q1.cell
    replace fq1 := q1.frozen
    replace q2 := blk_keep q2 bF
    replace cq2 := q2.cell
    replace fq2 := q2.frozen
    replace q3 := blk_keep q3 bF
    replace cq3 := q3.cell
    replace fq3 := q3.frozen
    replace t1 := sl_keep RInt.loc t1 bF hh
    replace hh := Nat.le_trans hh bF.size
    replace hbwF := below_below hbwF bF
    go_wp2_with fail
    have gb := (lit_grs w'.heap.size (by omega) [⟨1, 1, 0⟩, ⟨1, 1, 0⟩] q0 (by simp)).sl (fun g hg => by
      simp at hg; subst hg; exact ⟨in64_small (n := 1) (by omega), in64_small (n := 1) (by omega), in64_small (n := 0) (by omega)⟩) (Nat.le_refl _)
    refine (implRingOk_any ⟨rr.keys, [⟨1, 1, 0⟩, ⟨1, 1, 0⟩]⟩ _ _ wF w'.heap.size wF.heap.size (Nat.le_refl _) (sl_wide RInt.loc t1 (Nat.le_refl _) hh) gb false (by simp only [Bool.false_eq_true, false_iff]; exact form_b _)).mono ?_
    rintro e wG ⟨rfl, bG⟩
    replace q2 := blk_keep q2 bG
    replace cq2 := q2.cell
    replace fq2 := q2.frozen
    replace q3 := blk_keep q3 bG
    replace cq3 := q3.cell
    replace fq3 := q3.frozen
    replace t1 := sl_keep RInt.loc t1 bG hh
    replace hh := Nat.le_trans hh bG.size
    replace hbwF := below_below hbwF bG
    go_wp2_with fail
    have gc := (lit_grs w'.heap.size (by omega) [⟨1, (rr.keys.length : Int) + 1, 0⟩] q2 (by simp)).sl (fun g hg => by
      simp at hg; subst hg; exact ⟨in64_small (n := 1) (by omega), in64_small (n := (rr.keys.length : Int) + 1) (by omega), in64_small (n := 0) (by omega)⟩) (Nat.le_refl _)
    refine (implRingOk_any ⟨rr.keys, [⟨1, (rr.keys.length : Int) + 1, 0⟩]⟩ _ _ wG w'.heap.size wG.heap.size (Nat.le_refl _) (sl_wide RInt.loc t1 (Nat.le_refl _) hh) gc false (by simp only [Bool.false_eq_true, false_iff]; exact form_c _)).mono ?_
    rintro e wH ⟨rfl, bH⟩
    replace hbwF := below_below hbwF bH
    go_wp2_with fail
    obtain ⟨n1, n2⟩ := (OwnRg.nil wH w'.heap.size).reads ⟨fun x hx => (by cases hx), fun x hx => (by cases hx)⟩
    refine (implRingOk_any ⟨[], []⟩ _ _ wH w'.heap.size wH.heap.size (Nat.le_refl _) n1 n2 false (by simp only [Bool.false_eq_true, false_iff]; exact form_d)).mono ?_
    rintro e wI ⟨rfl, bI⟩
    go_wp2_with fail
    go_ret
    exact ⟨rfl, below_below hbwF bI⟩
  · have HP := Lib.hid hP; clear hP
    refine (implRingOk_any rr _ _ _ _ _ hhi rs1 rs2 false (by simp only [Bool.false_eq_true, false_iff]; exact HP.out)).mono ?_
    rintro e w3 ⟨rfl, b3⟩
    replace rs1 := sl_keep RInt.loc rs1 b3 hhi
    replace rs2 := sl_keep RGr.loc rs2 b3 hhi
    replace hhi := Nat.le_trans hhi b3.size
    replace hbw := below_below hbw b3
    replace k0 := blk_keep k0 b3
    replace ck0 := k0.cell
    replace fk0 := k0.frozen
    go_wp2_with fail
    refine (specRingOk_any rr _ _ _ _ _ hhi rs1 rs2 false (by simp only [Bool.false_eq_true, false_iff]; exact HP.out)).mono ?_
    rintro e w4 ⟨rfl, b4⟩
    replace rs1 := sl_keep RInt.loc rs1 b4 hhi
    replace rs2 := sl_keep RGr.loc rs2 b4 hhi
    replace hhi := Nat.le_trans hhi b4.size
    replace hbw := below_below hbw b4
    replace k0 := blk_keep k0 b4
    replace ck0 := k0.cell
    replace fk0 := k0.frozen
    go_wp2_with fail
    refine (specRingOk_any rr _ _ _ _ _ hhi rs1 rs2 false (by simp only [Bool.false_eq_true, false_iff]; exact HP.out)).mono ?_
    rintro e w5 ⟨rfl, b5⟩
    go_wp2_with fail
    go_ret
    exact ⟨rfl, below_below hbw b5⟩

set_option maxRecDepth 100000 in
theorem lifted (os : Os) (started : os.Started) (H : Type) (enc : TypeId × Value → H) :
    ReturnsInHanded {} Try.checked os 4 .any (Rows.fnRingFormSpec.pre6 enc Try.prog Try.f4 Rows.fnRingFormRow.domain false) (Rows.fnRingFormSpec.post enc Try.prog Try.f4 false true false false) := by
  refine law_lifted own started (by kernel_rfl) Try.func4 laidOut (by kernel_rfl) rfl Try.underlying4 rfl (fun ds hl => ?_)
    (ChangeSpec.witness6 (enc := enc) (C := Try.checked) false ⟨#[], #[.slice none 0 0], []⟩ 8 (by kernel_rfl) (by kernel_rfl) (by kernel_rfl) (by kernel_rfl)) ?_
  · match ds, hl with
    | [_], _ => rfl
  intro W base args ds p hval0 hA hlt hsz hsh
  have hval : ∀ (j : Nat) t v, Try.f4.params[j]? = some t → args[j]? = some v → Value.okWide Try.prog W .any base t v := hval0
  rw [Try.params4] at hA hval
  obtain ⟨v0, d0, rfl, rfl, h0⟩ := trodAll_one hA
  obtain ⟨a0_0, r0⟩ := open_byte_slice (hval 0 34 v0 rfl rfl) h0 (by first | exact hlt | exact fun x hx => hlt x (by simp [hx]))
  exact walk a0_0 r0 W

set_option maxRecDepth 100000 in
theorem factsHold : joinedFacts Try.pinned.checked.prog 4 Try.f4 Rows.fnRingFormSpec Rows.fnRingFormRow = true := by
  unfold joinedFacts
  rw [liftsFinal, mayEnter, makeIs]
  kernel_rfl
set_option maxRecDepth 100000 in
theorem proved : Rows.FnRingFormSaid :=
  OpenClaim.holds_of_wide 4 Try.f4 rfl rfl rfl rfl rfl rfl rfl ⟨rfl, rfl, rfl, rfl, rfl⟩ rfl rfl rfl rfl rfl (by kernel_rfl) Try.func4 factsHold
    (of_decide_eq_true (by kernel_rfl)) (by unfold Func.isWrapper; first | (rw [if_pos (by decide +kernel)]; kernel_rfl) | (rw [if_neg (by decide +kernel)]; exact ⟨rfl, rfl⟩))
    (fun os started H enc _ => lifted os started H enc)
#print axioms proved
end Go.Proofs.Ytdbeclnoaeiaeaa.lawrf
