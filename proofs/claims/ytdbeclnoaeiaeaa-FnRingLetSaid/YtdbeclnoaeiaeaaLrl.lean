


/- The law FnRingLet: a machine has keys from when it was let, or all. No condition. -/
import Derived.Test.YtdbeclnoaeiaeaaLaw
import Derived.Test.YtdbeclnoaeiaeaaDrX
import Derived.Test.YtdbeclnoaeiaeaaRgLi
import Derived.Test.YtdbeclnoaeiaeaaRgL
import Derived.Test.YtdbeclnoaeiaeaaLdR
import Derived.Test.YtdbeclnoaeiaeaaHeard
import Derived.Test.YtdbeclnoaeiaeaaEnter
import Derived.Test.YtdbeclnoaeiaeaaMake
namespace Go.Proofs.Ytdbeclnoaeiaeaa.lawrl
open Go.RowKit Go.ChangeShapes Go.WideShapes Go.ChangeAt

theorem let_last {r r' : Rg} {m k : Int} {all ok : Bool} (h : RLet r m all r' true) (hk : RKey r' m r.keys.length k ok) : ok = true ∧ r.keys[r.keys.length - 1]? = some k := by
  have h' := h
  obtain ⟨hr, hm, hno, rfl, hr'⟩ := let_ring h
  have hpos := hr.2.2.1
  have hok : ok = true := hk.ok_iff.2 ⟨hr', ⟨by omega, Int.le_refl _⟩, (let_key h' _).2 (by unfold letFrom; split <;> omega)⟩
  refine ⟨hok, ?_⟩
  rcases hk with ⟨_, _, h3⟩ | ⟨h3, _⟩
  · have e : ((r.keys.length : Int) - 1).toNat = r.keys.length - 1 := by omega
    rw [e] at h3
    exact h3
  · rw [hok] at h3; cases h3
set_option maxHeartbeats 4000000 in
theorem walk (l : List Int) {v : Value} {w : World} (h : RSl RByte 1 w 0 w.heap.size l [v]) (w' : World) (hw : w' = w := by rfl) :
    Calls Try.prog 15 #[v] w' fun e w' => e = .returned (.bool true) ∧ Below w.heap.size w w' := by
  subst hw
  obtain ⟨A, c, rfl⟩ := h.form
  have hlen : l.length ≤ maxLen := by obtain ⟨_, h1, h2⟩ := h.len_; omega
  unfold maxLen at hlen
  by_cases hbig : 1048576 < l.length
  · go_enter Try.func15, Try.ntmps15
    go_wp2_with fail
    go_ret
    exact ⟨rfl, Below.refl _ _⟩
  go_enter Try.func15, Try.ntmps15
  go_wp2_with fail
  refine (drawRingLet_any l A _ c _ h).mono ?_
  rintro e w1 ⟨va, vb, rr, m, all, rfl, o1, f1, hm, hbw⟩
  obtain ⟨r1, ok1, hr1⟩ := RLet_total rr m all
  have hg1 := let_good hr1 f1.good (in64_small (by omega))
  have hs1 := let_sz hr1 (f1.sz (by omega))
  have hl1 := (f1.sz (by omega)).1
  have hl2 := (f1.sz (by omega)).2
  have HG := Lib.hid hg1; clear hg1
  have HS1 := Lib.hid hs1; clear hs1
  have HR := Lib.hid hr1; clear hr1
  have hkl := f1.keys
  have hkp := f1.pos
  have HF := Lib.hid f1; clear f1
  obtain ⟨A1, c1, rfl⟩ := o1.keys.form
  obtain ⟨B1, d1, rfl⟩ := o1.grs.form
  obtain ⟨rs1, rs2⟩ := o1.reads HF.out.good
  have hhi := Nat.le_refl w1.heap.size
  go_wp2_with fail
  have hbw2 : Below w1.heap.size w1 (w1.alloc (.cells #[.slice A1 rr.keys.length c1, .slice B1 rr.grs.length d1] 30)) := below_alloc _ _
  have k0 : Blk (w1.alloc (.cells #[.slice A1 rr.keys.length c1, .slice B1 rr.grs.length d1] 30)) (w1.heap.size) 30 #[.slice A1 rr.keys.length c1, .slice B1 rr.grs.length d1] := by
    have hk := Blk.new w1 30 #[.slice A1 rr.keys.length c1, .slice B1 rr.grs.length d1]
    exact hk
  have hsw2 : w1.heap.size + 1 ≤ (w1.alloc (.cells #[.slice A1 rr.keys.length c1, .slice B1 rr.grs.length d1] 30)).heap.size := by simp only [World.size_alloc]; omega
  generalize (w1.alloc (.cells #[.slice A1 rr.keys.length c1, .slice B1 rr.grs.length d1] 30)) = w2 at *
  have ck0 := k0.cell
  have fk0 := k0.frozen
  replace rs1 := sl_keep RInt.loc rs1 hbw2 hhi
  replace rs2 := sl_keep RGr.loc rs2 hbw2 hhi
  replace hhi := Nat.le_trans hhi hbw2.size
  replace hbw := below_below hbw hbw2
  refine (specRingLet_any rr m all _ _ _ _ _ hhi rs1 rs2 hl1 hl2 r1 ok1 HR.out).mono ?_
  rintro e w3 ⟨va3, vb3, rfl, o3, b3⟩
  obtain ⟨A3, c3, rfl⟩ := o3.keys.form
  obtain ⟨B3, d3, rfl⟩ := o3.grs.form
  replace rs1 := sl_keep RInt.loc rs1 b3 hhi
  replace rs2 := sl_keep RGr.loc rs2 b3 hhi
  replace hhi := Nat.le_trans hhi b3.size
  replace hbw := below_below hbw b3
  replace k0 := blk_keep k0 b3
  replace ck0 := k0.cell
  replace fk0 := k0.frozen
  have ax := below_alloc w3 (.cells #[.slice A3 r1.keys.length c3, .slice B3 r1.grs.length d3] 30)
  have ka0 := (blk_keep k0 ax).cell
  go_wp2_with fail
  clear ax ka0
  have hbw4 : Below w3.heap.size w3 (w3.alloc (.cells #[.slice A3 r1.keys.length c3, .slice B3 r1.grs.length d3] 30)) := below_alloc _ _
  have m0 : Blk (w3.alloc (.cells #[.slice A3 r1.keys.length c3, .slice B3 r1.grs.length d3] 30)) (w3.heap.size) 30 #[.slice A3 r1.keys.length c3, .slice B3 r1.grs.length d3] := by
    have hk := Blk.new w3 30 #[.slice A3 r1.keys.length c3, .slice B3 r1.grs.length d3]
    exact hk
  have hsw4 : w3.heap.size + 1 ≤ (w3.alloc (.cells #[.slice A3 r1.keys.length c3, .slice B3 r1.grs.length d3] 30)).heap.size := by simp only [World.size_alloc]; omega
  generalize (w3.alloc (.cells #[.slice A3 r1.keys.length c3, .slice B3 r1.grs.length d3] 30)) = w4 at *
  have cm0 := m0.cell
  have fm0 := m0.frozen
  replace rs1 := sl_keep RInt.loc rs1 hbw4 hhi
  replace rs2 := sl_keep RGr.loc rs2 hbw4 hhi
  replace hhi := Nat.le_trans hhi hbw4.size
  replace hbw := below_below hbw hbw4
  replace k0 := blk_keep k0 hbw4
  replace ck0 := k0.cell
  replace fk0 := k0.frozen
  replace o3 := o3.below hbw4
  refine (implRingLet_any rr m all _ _ _ _ _ hhi rs1 rs2 hl1 hl2 r1 ok1 HR.out).mono ?_
  rintro e w5 ⟨va5, vb5, rfl, o5, b5⟩
  obtain ⟨A5, c5, rfl⟩ := o5.keys.form
  obtain ⟨B5, d5, rfl⟩ := o5.grs.form
  replace rs1 := sl_keep RInt.loc rs1 b5 hhi
  replace rs2 := sl_keep RGr.loc rs2 b5 hhi
  replace hhi := Nat.le_trans hhi b5.size
  replace hbw := below_below hbw b5
  replace k0 := blk_keep k0 b5
  replace ck0 := k0.cell
  replace fk0 := k0.frozen
  replace m0 := blk_keep m0 b5
  replace cm0 := m0.cell
  replace fm0 := m0.frozen
  replace o3 := o3.below b5
  cases ok1 with
  | false =>
    have ax := below_alloc w5 (.cells #[.slice A5 r1.keys.length c5, .slice B5 r1.grs.length d5] 30)
    have ka0 := (blk_keep k0 ax).cell
    have ma0 := (blk_keep m0 ax).cell
    go_wp2_with fail
    clear ax ka0 ma0
    have hbw6 : Below w5.heap.size w5 (w5.alloc (.cells #[.slice A5 r1.keys.length c5, .slice B5 r1.grs.length d5] 30)) := below_alloc _ _
    have p0 : Blk (w5.alloc (.cells #[.slice A5 r1.keys.length c5, .slice B5 r1.grs.length d5] 30)) (w5.heap.size) 30 #[.slice A5 r1.keys.length c5, .slice B5 r1.grs.length d5] := by
      have hk := Blk.new w5 30 #[.slice A5 r1.keys.length c5, .slice B5 r1.grs.length d5]
      exact hk
    have hsw6 : w5.heap.size + 1 ≤ (w5.alloc (.cells #[.slice A5 r1.keys.length c5, .slice B5 r1.grs.length d5] 30)).heap.size := by simp only [World.size_alloc]; omega
    generalize (w5.alloc (.cells #[.slice A5 r1.keys.length c5, .slice B5 r1.grs.length d5] 30)) = w6 at *
    have cp0 := p0.cell
    have fp0 := p0.frozen
    replace rs1 := sl_keep RInt.loc rs1 hbw6 hhi
    replace rs2 := sl_keep RGr.loc rs2 hbw6 hhi
    replace hhi := Nat.le_trans hhi hbw6.size
    replace hbw := below_below hbw hbw6
    replace k0 := blk_keep k0 hbw6
    replace ck0 := k0.cell
    replace fk0 := k0.frozen
    replace m0 := blk_keep m0 hbw6
    replace cm0 := m0.cell
    replace fm0 := m0.frozen
    replace o3 := o3.below hbw6
    replace o5 := o5.below hbw6
    have s3 := o3.reads HG.out
    have s5 := o5.reads HG.out
    refine (ldRing_any r1 r1 _ _ _ _ _ _ _ _ _ (Nat.le_refl _) (Nat.le_refl _) s5.1 s5.2 s3.1 s3.2 true (by simp)).mono ?_
    rintro e w7 ⟨rfl, bw7⟩
    replace rs1 := sl_keep RInt.loc rs1 bw7 hhi
    replace rs2 := sl_keep RGr.loc rs2 bw7 hhi
    replace hhi := Nat.le_trans hhi bw7.size
    replace hbw := below_below hbw bw7
    replace k0 := blk_keep k0 bw7
    replace ck0 := k0.cell
    replace fk0 := k0.frozen
    replace m0 := blk_keep m0 bw7
    replace cm0 := m0.cell
    replace fm0 := m0.frozen
    replace p0 := blk_keep p0 bw7
    replace cp0 := p0.cell
    replace fp0 := p0.frozen
    replace o3 := o3.below bw7
    replace o5 := o5.below bw7
    replace s3 := o3.reads HG.out
    replace s5 := o5.reads HG.out
    go_wp2_with fail
    refine (ldRing_any r1 r1 _ _ _ _ _ _ _ _ _ (Nat.le_refl _) (Nat.le_refl _) s5.1 s5.2 s3.1 s3.2 true (by simp)).mono ?_
    rintro e w8 ⟨rfl, bw8⟩
    replace rs1 := sl_keep RInt.loc rs1 bw8 hhi
    replace rs2 := sl_keep RGr.loc rs2 bw8 hhi
    replace hhi := Nat.le_trans hhi bw8.size
    replace hbw := below_below hbw bw8
    replace k0 := blk_keep k0 bw8
    replace ck0 := k0.cell
    replace fk0 := k0.frozen
    replace m0 := blk_keep m0 bw8
    replace cm0 := m0.cell
    replace fm0 := m0.frozen
    replace p0 := blk_keep p0 bw8
    replace cp0 := p0.cell
    replace fp0 := p0.frozen
    replace o3 := o3.below bw8
    replace o5 := o5.below bw8
    replace s3 := o3.reads HG.out
    replace s5 := o5.reads HG.out
    go_wp2_with fail
    go_ret
    exact ⟨rfl, hbw⟩
  | true =>
    have ax := below_alloc w5 (.cells #[.slice A5 r1.keys.length c5, .slice B5 r1.grs.length d5] 30)
    have ka0 := (blk_keep k0 ax).cell
    have ma0 := (blk_keep m0 ax).cell
    go_wp2_with fail
    clear ax ka0 ma0
    have hbw6 : Below w5.heap.size w5 (w5.alloc (.cells #[.slice A5 r1.keys.length c5, .slice B5 r1.grs.length d5] 30)) := below_alloc _ _
    have p0 : Blk (w5.alloc (.cells #[.slice A5 r1.keys.length c5, .slice B5 r1.grs.length d5] 30)) (w5.heap.size) 30 #[.slice A5 r1.keys.length c5, .slice B5 r1.grs.length d5] := by
      have hk := Blk.new w5 30 #[.slice A5 r1.keys.length c5, .slice B5 r1.grs.length d5]
      exact hk
    have hsw6 : w5.heap.size + 1 ≤ (w5.alloc (.cells #[.slice A5 r1.keys.length c5, .slice B5 r1.grs.length d5] 30)).heap.size := by simp only [World.size_alloc]; omega
    generalize (w5.alloc (.cells #[.slice A5 r1.keys.length c5, .slice B5 r1.grs.length d5] 30)) = w6 at *
    have cp0 := p0.cell
    have fp0 := p0.frozen
    replace rs1 := sl_keep RInt.loc rs1 hbw6 hhi
    replace rs2 := sl_keep RGr.loc rs2 hbw6 hhi
    replace hhi := Nat.le_trans hhi hbw6.size
    replace hbw := below_below hbw hbw6
    replace k0 := blk_keep k0 hbw6
    replace ck0 := k0.cell
    replace fk0 := k0.frozen
    replace m0 := blk_keep m0 hbw6
    replace cm0 := m0.cell
    replace fm0 := m0.frozen
    replace o3 := o3.below hbw6
    replace o5 := o5.below hbw6
    have s3 := o3.reads HG.out
    have s5 := o5.reads HG.out
    refine (ldRing_any r1 r1 _ _ _ _ _ _ _ _ _ (Nat.le_refl _) (Nat.le_refl _) s5.1 s5.2 s3.1 s3.2 true (by simp)).mono ?_
    rintro e w7 ⟨rfl, bw7⟩
    replace rs1 := sl_keep RInt.loc rs1 bw7 hhi
    replace rs2 := sl_keep RGr.loc rs2 bw7 hhi
    replace hhi := Nat.le_trans hhi bw7.size
    replace hbw := below_below hbw bw7
    replace k0 := blk_keep k0 bw7
    replace ck0 := k0.cell
    replace fk0 := k0.frozen
    replace m0 := blk_keep m0 bw7
    replace cm0 := m0.cell
    replace fm0 := m0.frozen
    replace p0 := blk_keep p0 bw7
    replace cp0 := p0.cell
    replace fp0 := p0.frozen
    replace o3 := o3.below bw7
    replace o5 := o5.below bw7
    replace s3 := o3.reads HG.out
    replace s5 := o5.reads HG.out
    have hR0 := (let_ring HR.out).1
    have hR1 := Lib.hid (let_ring HR.out).2.2.2.2
    have hpos := hR0.2.2.1
    have hmany := Lib.hid (let_many HR.out)
    obtain ⟨n0, hn0⟩ : ∃ n0 : Nat, n0 = if all then rr.keys.length else 1 := ⟨_, rfl⟩
    rw [← hn0] at hmany
    cases all with
    | true =>
      simp only [if_true] at hn0
      subst hn0
      clear hR0
      go_wp2_with fail
      go_loopw [11] (fun oo wr => ∃ o : Int, oo = .int .i64 o ∧ 1 ≤ o ∧ o ≤ 5 ∧ Below w7.heap.size w7 wr) (fun oo _ => (5 - intOf oo).toNat)
      case atStart => exact ⟨1, rfl, by omega, by omega, Below.refl _ _⟩
      case round =>
        obtain ⟨o, rfl, ho1, ho5, bw⟩ := hrel
        have ss5 := s5
        replace rs1 := sl_keep RInt.loc rs1 bw hhi
        replace rs2 := sl_keep RGr.loc rs2 bw hhi
        replace hhi := Nat.le_trans hhi bw.size
        replace hbw := below_below hbw bw
        replace k0 := blk_keep k0 bw
        replace ck0 := k0.cell
        replace fk0 := k0.frozen
        replace m0 := blk_keep m0 bw
        replace cm0 := m0.cell
        replace fm0 := m0.frozen
        replace p0 := blk_keep p0 bw
        replace cp0 := p0.cell
        replace fp0 := p0.frozen
        replace o3 := o3.below bw
        replace o5 := o5.below bw
        replace s3 := o3.reads HG.out
        replace s5 := o5.reads HG.out
        by_cases hlt : o ≤ 4
        · by_cases hom : o = m
          · have t1 : (o != m) = false := by rw [bne_eq_false_iff_eq]; exact hom
            have HOM := Lib.hid hom; clear hom
            go_wp2_with fail
            go_quiet (fail)
            go_wp2_with fail
            go_roundw
            case rel => first | exact ⟨o + 1, by go_num, by omega, by omega, below_drewN bw _⟩ | ((repeat apply Exists.intro); refine ⟨?_, rfl⟩; exact ⟨o + 1, by go_num, by omega, by omega, below_drewN bw _⟩)
            case measure => simp [intOf]; omega
          · have t1 : (o != m) = true := by rw [bne_iff_ne]; exact hom
            obtain ⟨n, hn⟩ := RMany_total rr o
            have HN := Lib.hid hn
            have HN2 := Lib.hid (let_many_other HR.out hom hn)
            clear hn hom
            have ca0 : wr.cell? ⟨w1.heap.size, 0, none⟩ = some (.slice A1 rr.keys.length c1) := k0.cell 0
            have ca1 : wr.cell? ⟨w1.heap.size, 1, none⟩ = some (.slice B1 rr.grs.length d1) := k0.cell 1
            have cb0 : wr.cell? ⟨w5.heap.size, 0, none⟩ = some (.slice A5 r1.keys.length c5) := p0.cell 0
            have cb1 : wr.cell? ⟨w5.heap.size, 1, none⟩ = some (.slice B5 r1.grs.length d5) := p0.cell 1
            go_wp2_with fail
            have past0 := past_cell ca0
            have past1 := past_cell ca1
            have past2 := past_cell cb0
            have past3 := past_cell cb1
            refine region_past (by kernel_rfl) (by kernel_rfl) ?_
            repeat (go_big_quiet_step (fail))
            go_big_quiet_step ((go_at_call 29; refine past_call (implRingMany_any r1 o (.slice A5 r1.keys.length c5) (.slice B5 r1.grs.length d5) _ _ _ (Past.ok _).size (sl_keep RInt.loc s5.1 (Past.ok _) (Nat.le_refl _)) (sl_keep RGr.loc s5.2 (Past.ok _) (Nat.le_refl _)) n HN2.out)))
            repeat (go_big_quiet_step (fail))
            go_big_quiet_step ((go_at_call 29; refine past_call (implRingMany_any rr o (.slice A1 rr.keys.length c1) (.slice B1 rr.grs.length d1) _ _ _ (Nat.le_trans hhi (Past.ok _).size) (sl_keep RInt.loc rs1 (Past.ok _) hhi) (sl_keep RGr.loc rs2 (Past.ok _) hhi) n HN.out)))
            repeat (go_big_quiet_step (fail))
            refine wpQuiet_nil ?_
            intro wq hw1
            have hq := past_out hw1
            clear hw1 past0 past1 past2 past3
            go_wp2_with fail
            go_roundw
            case rel => exact ⟨o + 1, by go_num, by omega, by omega, below_below bw hq⟩
            case measure => simp [intOf]; omega
        · have hlt' : 4 < o := by omega
          clear hlt
          obtain ⟨k, has, hk⟩ := RKey_total r1 m rr.keys.length
          obtain ⟨rfl, hlast⟩ := let_last HR.out hk
          have HK := Lib.hid hk; clear hk
          have HL := Lib.hid hlast; clear hlast
          go_wp2_with fail
          refine (implRingKey_any r1 m rr.keys.length _ _ _ _ _ (Nat.le_refl _) s5.1 s5.2 k true HK.out).mono ?_
          rintro e w8 ⟨rfl, b8⟩
          replace rs1 := sl_keep RInt.loc rs1 b8 hhi
          replace rs2 := sl_keep RGr.loc rs2 b8 hhi
          replace hhi := Nat.le_trans hhi b8.size
          replace hbw := below_below hbw b8
          replace k0 := blk_keep k0 b8
          replace ck0 := k0.cell
          replace fk0 := k0.frozen
          replace m0 := blk_keep m0 b8
          replace cm0 := m0.cell
          replace fm0 := m0.frozen
          replace p0 := blk_keep p0 b8
          replace cp0 := p0.cell
          replace fp0 := p0.frozen
          replace o3 := o3.below b8
          replace o5 := o5.below b8
          replace s3 := o3.reads HG.out
          replace s5 := o5.reads HG.out
          go_wp2_with fail
          obtain ⟨r2, ok2, hr2⟩ := RLet_total r1 m true
          obtain ⟨rfl, he2⟩ := let_again HR.out hr2
          have HR2 := Lib.hid hr2; clear hr2
          have HE2 := Lib.hid he2; clear he2
          refine (implRingLet_any r1 m _ _ _ _ _ _ (Nat.le_refl _) s5.1 s5.2 HS1.out.1 HS1.out.2 r2 false HR2.out).mono ?_
          rintro e w9 ⟨va9, vb9, rfl, o9, b9⟩
          obtain ⟨A9, c9, rfl⟩ := o9.keys.form
          obtain ⟨B9, d9, rfl⟩ := o9.grs.form
          replace rs1 := sl_keep RInt.loc rs1 b9 hhi
          replace rs2 := sl_keep RGr.loc rs2 b9 hhi
          replace hhi := Nat.le_trans hhi b9.size
          replace hbw := below_below hbw b9
          replace k0 := blk_keep k0 b9
          replace ck0 := k0.cell
          replace fk0 := k0.frozen
          replace m0 := blk_keep m0 b9
          replace cm0 := m0.cell
          replace fm0 := m0.frozen
          replace p0 := blk_keep p0 b9
          replace cp0 := p0.cell
          replace fp0 := p0.frozen
          replace o3 := o3.below b9
          replace o5 := o5.below b9
          replace s3 := o3.reads HG.out
          replace s5 := o5.reads HG.out
          have ax := below_alloc w9 (.cells #[.slice A9 r2.keys.length c9, .slice B9 r2.grs.length d9] 30)
          have pa0 := (blk_keep p0 ax).cell
          have ka0 := (blk_keep k0 ax).cell
          go_wp2_with fail
          clear ax pa0 ka0
          have hbwa : Below w9.heap.size w9 (w9.alloc (.cells #[.slice A9 r2.keys.length c9, .slice B9 r2.grs.length d9] 30)) := below_alloc _ _
          have q0 : Blk (w9.alloc (.cells #[.slice A9 r2.keys.length c9, .slice B9 r2.grs.length d9] 30)) (w9.heap.size) 30 #[.slice A9 r2.keys.length c9, .slice B9 r2.grs.length d9] := by
            have hk := Blk.new w9 30 #[.slice A9 r2.keys.length c9, .slice B9 r2.grs.length d9]
            exact hk
          have hswa : w9.heap.size + 1 ≤ (w9.alloc (.cells #[.slice A9 r2.keys.length c9, .slice B9 r2.grs.length d9] 30)).heap.size := by simp only [World.size_alloc]; omega
          generalize (w9.alloc (.cells #[.slice A9 r2.keys.length c9, .slice B9 r2.grs.length d9] 30)) = wa at *
          have cq0 := q0.cell
          have fq0 := q0.frozen
          replace rs1 := sl_keep RInt.loc rs1 hbwa hhi
          replace rs2 := sl_keep RGr.loc rs2 hbwa hhi
          replace hhi := Nat.le_trans hhi hbwa.size
          replace hbw := below_below hbw hbwa
          replace k0 := blk_keep k0 hbwa
          replace ck0 := k0.cell
          replace fk0 := k0.frozen
          replace m0 := blk_keep m0 hbwa
          replace cm0 := m0.cell
          replace fm0 := m0.frozen
          replace p0 := blk_keep p0 hbwa
          replace cp0 := p0.cell
          replace fp0 := p0.frozen
          replace o3 := o3.below hbwa
          replace o5 := o5.below hbwa
          replace s3 := o3.reads HG.out
          replace s5 := o5.reads HG.out
          replace o9 := o9.below hbwa
          refine (implRingMany_any r1 m _ _ _ _ _ (Nat.le_refl _) s5.1 s5.2 _ hmany.out).mono ?_
          rintro e wb ⟨rfl, bb⟩
          replace rs1 := sl_keep RInt.loc rs1 bb hhi
          replace rs2 := sl_keep RGr.loc rs2 bb hhi
          replace hhi := Nat.le_trans hhi bb.size
          replace hbw := below_below hbw bb
          replace k0 := blk_keep k0 bb
          replace ck0 := k0.cell
          replace fk0 := k0.frozen
          replace m0 := blk_keep m0 bb
          replace cm0 := m0.cell
          replace fm0 := m0.frozen
          replace p0 := blk_keep p0 bb
          replace cp0 := p0.cell
          replace fp0 := p0.frozen
          replace o3 := o3.below bb
          replace o5 := o5.below bb
          replace s3 := o3.reads HG.out
          replace s5 := o5.reads HG.out
          replace q0 := blk_keep q0 bb
          replace cq0 := q0.cell
          replace fq0 := q0.frozen
          replace o9 := o9.below bb
          have s9 := o9.reads (by rw [HE2.out]; exact HG.out)
          obtain ⟨bk, off, rfl, _, _, _, hcell⟩ := rs1.ints_at HL.out
          have hlp : (0 : Int) < (rr.keys.length : Int) := by omega
          go_wp2_with fail
          refine (ldRing_any r2 r1 _ _ _ _ _ _ _ _ _ (Nat.le_refl _) (Nat.le_refl _) s9.1 s9.2 s5.1 s5.2 true (by simp; exact HE2.out)).mono ?_
          rintro e wc ⟨rfl, bc⟩
          replace rs1 := sl_keep RInt.loc rs1 bc hhi
          replace rs2 := sl_keep RGr.loc rs2 bc hhi
          replace hhi := Nat.le_trans hhi bc.size
          replace hbw := below_below hbw bc
          replace k0 := blk_keep k0 bc
          replace ck0 := k0.cell
          replace fk0 := k0.frozen
          replace m0 := blk_keep m0 bc
          replace cm0 := m0.cell
          replace fm0 := m0.frozen
          replace p0 := blk_keep p0 bc
          replace cp0 := p0.cell
          replace fp0 := p0.frozen
          replace o3 := o3.below bc
          replace o5 := o5.below bc
          replace s3 := o3.reads HG.out
          replace s5 := o5.reads HG.out
          go_wp2_with fail
          refine (implRingOk_any r1 _ _ _ _ _ (Nat.le_refl _) s5.1 s5.2 true (by simp only [true_iff]; exact hR1.out)).mono ?_
          rintro e wd ⟨rfl, bd⟩
          go_wp2_with fail
          go_ret
          exact ⟨rfl, below_below hbw bd⟩
    | false =>
      simp only [Bool.false_eq_true, if_false] at hn0
      subst hn0
      clear hR0
      go_wp2_with fail
      go_loopw [11] (fun oo wr => ∃ o : Int, oo = .int .i64 o ∧ 1 ≤ o ∧ o ≤ 5 ∧ Below w7.heap.size w7 wr) (fun oo _ => (5 - intOf oo).toNat)
      case atStart => exact ⟨1, rfl, by omega, by omega, Below.refl _ _⟩
      case round =>
        obtain ⟨o, rfl, ho1, ho5, bw⟩ := hrel
        have ss5 := s5
        replace rs1 := sl_keep RInt.loc rs1 bw hhi
        replace rs2 := sl_keep RGr.loc rs2 bw hhi
        replace hhi := Nat.le_trans hhi bw.size
        replace hbw := below_below hbw bw
        replace k0 := blk_keep k0 bw
        replace ck0 := k0.cell
        replace fk0 := k0.frozen
        replace m0 := blk_keep m0 bw
        replace cm0 := m0.cell
        replace fm0 := m0.frozen
        replace p0 := blk_keep p0 bw
        replace cp0 := p0.cell
        replace fp0 := p0.frozen
        replace o3 := o3.below bw
        replace o5 := o5.below bw
        replace s3 := o3.reads HG.out
        replace s5 := o5.reads HG.out
        by_cases hlt : o ≤ 4
        · by_cases hom : o = m
          · have t1 : (o != m) = false := by rw [bne_eq_false_iff_eq]; exact hom
            have HOM := Lib.hid hom; clear hom
            go_wp2_with fail
            go_quiet (fail)
            go_wp2_with fail
            go_roundw
            case rel => first | exact ⟨o + 1, by go_num, by omega, by omega, below_drewN bw _⟩ | ((repeat apply Exists.intro); refine ⟨?_, rfl⟩; exact ⟨o + 1, by go_num, by omega, by omega, below_drewN bw _⟩)
            case measure => simp [intOf]; omega
          · have t1 : (o != m) = true := by rw [bne_iff_ne]; exact hom
            obtain ⟨n, hn⟩ := RMany_total rr o
            have HN := Lib.hid hn
            have HN2 := Lib.hid (let_many_other HR.out hom hn)
            clear hn hom
            have ca0 : wr.cell? ⟨w1.heap.size, 0, none⟩ = some (.slice A1 rr.keys.length c1) := k0.cell 0
            have ca1 : wr.cell? ⟨w1.heap.size, 1, none⟩ = some (.slice B1 rr.grs.length d1) := k0.cell 1
            have cb0 : wr.cell? ⟨w5.heap.size, 0, none⟩ = some (.slice A5 r1.keys.length c5) := p0.cell 0
            have cb1 : wr.cell? ⟨w5.heap.size, 1, none⟩ = some (.slice B5 r1.grs.length d5) := p0.cell 1
            go_wp2_with fail
            have past0 := past_cell ca0
            have past1 := past_cell ca1
            have past2 := past_cell cb0
            have past3 := past_cell cb1
            refine region_past (by kernel_rfl) (by kernel_rfl) ?_
            repeat (go_big_quiet_step (fail))
            go_big_quiet_step ((go_at_call 29; refine past_call (implRingMany_any r1 o (.slice A5 r1.keys.length c5) (.slice B5 r1.grs.length d5) _ _ _ (Past.ok _).size (sl_keep RInt.loc s5.1 (Past.ok _) (Nat.le_refl _)) (sl_keep RGr.loc s5.2 (Past.ok _) (Nat.le_refl _)) n HN2.out)))
            repeat (go_big_quiet_step (fail))
            go_big_quiet_step ((go_at_call 29; refine past_call (implRingMany_any rr o (.slice A1 rr.keys.length c1) (.slice B1 rr.grs.length d1) _ _ _ (Nat.le_trans hhi (Past.ok _).size) (sl_keep RInt.loc rs1 (Past.ok _) hhi) (sl_keep RGr.loc rs2 (Past.ok _) hhi) n HN.out)))
            repeat (go_big_quiet_step (fail))
            refine wpQuiet_nil ?_
            intro wq hw1
            have hq := past_out hw1
            clear hw1 past0 past1 past2 past3
            go_wp2_with fail
            go_roundw
            case rel => exact ⟨o + 1, by go_num, by omega, by omega, below_below bw hq⟩
            case measure => simp [intOf]; omega
        · have hlt' : 4 < o := by omega
          clear hlt
          obtain ⟨k, has, hk⟩ := RKey_total r1 m rr.keys.length
          obtain ⟨rfl, hlast⟩ := let_last HR.out hk
          have HK := Lib.hid hk; clear hk
          have HL := Lib.hid hlast; clear hlast
          go_wp2_with fail
          refine (implRingKey_any r1 m rr.keys.length _ _ _ _ _ (Nat.le_refl _) s5.1 s5.2 k true HK.out).mono ?_
          rintro e w8 ⟨rfl, b8⟩
          replace rs1 := sl_keep RInt.loc rs1 b8 hhi
          replace rs2 := sl_keep RGr.loc rs2 b8 hhi
          replace hhi := Nat.le_trans hhi b8.size
          replace hbw := below_below hbw b8
          replace k0 := blk_keep k0 b8
          replace ck0 := k0.cell
          replace fk0 := k0.frozen
          replace m0 := blk_keep m0 b8
          replace cm0 := m0.cell
          replace fm0 := m0.frozen
          replace p0 := blk_keep p0 b8
          replace cp0 := p0.cell
          replace fp0 := p0.frozen
          replace o3 := o3.below b8
          replace o5 := o5.below b8
          replace s3 := o3.reads HG.out
          replace s5 := o5.reads HG.out
          go_wp2_with fail
          obtain ⟨r2, ok2, hr2⟩ := RLet_total r1 m false
          obtain ⟨rfl, he2⟩ := let_again HR.out hr2
          have HR2 := Lib.hid hr2; clear hr2
          have HE2 := Lib.hid he2; clear he2
          refine (implRingLet_any r1 m _ _ _ _ _ _ (Nat.le_refl _) s5.1 s5.2 HS1.out.1 HS1.out.2 r2 false HR2.out).mono ?_
          rintro e w9 ⟨va9, vb9, rfl, o9, b9⟩
          obtain ⟨A9, c9, rfl⟩ := o9.keys.form
          obtain ⟨B9, d9, rfl⟩ := o9.grs.form
          replace rs1 := sl_keep RInt.loc rs1 b9 hhi
          replace rs2 := sl_keep RGr.loc rs2 b9 hhi
          replace hhi := Nat.le_trans hhi b9.size
          replace hbw := below_below hbw b9
          replace k0 := blk_keep k0 b9
          replace ck0 := k0.cell
          replace fk0 := k0.frozen
          replace m0 := blk_keep m0 b9
          replace cm0 := m0.cell
          replace fm0 := m0.frozen
          replace p0 := blk_keep p0 b9
          replace cp0 := p0.cell
          replace fp0 := p0.frozen
          replace o3 := o3.below b9
          replace o5 := o5.below b9
          replace s3 := o3.reads HG.out
          replace s5 := o5.reads HG.out
          have ax := below_alloc w9 (.cells #[.slice A9 r2.keys.length c9, .slice B9 r2.grs.length d9] 30)
          have pa0 := (blk_keep p0 ax).cell
          have ka0 := (blk_keep k0 ax).cell
          go_wp2_with fail
          clear ax pa0 ka0
          have hbwa : Below w9.heap.size w9 (w9.alloc (.cells #[.slice A9 r2.keys.length c9, .slice B9 r2.grs.length d9] 30)) := below_alloc _ _
          have q0 : Blk (w9.alloc (.cells #[.slice A9 r2.keys.length c9, .slice B9 r2.grs.length d9] 30)) (w9.heap.size) 30 #[.slice A9 r2.keys.length c9, .slice B9 r2.grs.length d9] := by
            have hk := Blk.new w9 30 #[.slice A9 r2.keys.length c9, .slice B9 r2.grs.length d9]
            exact hk
          have hswa : w9.heap.size + 1 ≤ (w9.alloc (.cells #[.slice A9 r2.keys.length c9, .slice B9 r2.grs.length d9] 30)).heap.size := by simp only [World.size_alloc]; omega
          generalize (w9.alloc (.cells #[.slice A9 r2.keys.length c9, .slice B9 r2.grs.length d9] 30)) = wa at *
          have cq0 := q0.cell
          have fq0 := q0.frozen
          replace rs1 := sl_keep RInt.loc rs1 hbwa hhi
          replace rs2 := sl_keep RGr.loc rs2 hbwa hhi
          replace hhi := Nat.le_trans hhi hbwa.size
          replace hbw := below_below hbw hbwa
          replace k0 := blk_keep k0 hbwa
          replace ck0 := k0.cell
          replace fk0 := k0.frozen
          replace m0 := blk_keep m0 hbwa
          replace cm0 := m0.cell
          replace fm0 := m0.frozen
          replace p0 := blk_keep p0 hbwa
          replace cp0 := p0.cell
          replace fp0 := p0.frozen
          replace o3 := o3.below hbwa
          replace o5 := o5.below hbwa
          replace s3 := o3.reads HG.out
          replace s5 := o5.reads HG.out
          replace o9 := o9.below hbwa
          refine (implRingMany_any r1 m _ _ _ _ _ (Nat.le_refl _) s5.1 s5.2 _ hmany.out).mono ?_
          rintro e wb ⟨rfl, bb⟩
          replace rs1 := sl_keep RInt.loc rs1 bb hhi
          replace rs2 := sl_keep RGr.loc rs2 bb hhi
          replace hhi := Nat.le_trans hhi bb.size
          replace hbw := below_below hbw bb
          replace k0 := blk_keep k0 bb
          replace ck0 := k0.cell
          replace fk0 := k0.frozen
          replace m0 := blk_keep m0 bb
          replace cm0 := m0.cell
          replace fm0 := m0.frozen
          replace p0 := blk_keep p0 bb
          replace cp0 := p0.cell
          replace fp0 := p0.frozen
          replace o3 := o3.below bb
          replace o5 := o5.below bb
          replace s3 := o3.reads HG.out
          replace s5 := o5.reads HG.out
          replace q0 := blk_keep q0 bb
          replace cq0 := q0.cell
          replace fq0 := q0.frozen
          replace o9 := o9.below bb
          have s9 := o9.reads (by rw [HE2.out]; exact HG.out)
          obtain ⟨bk, off, rfl, _, _, _, hcell⟩ := rs1.ints_at HL.out
          have hlp : (0 : Int) < (rr.keys.length : Int) := by omega
          go_wp2_with fail
          refine (ldRing_any r2 r1 _ _ _ _ _ _ _ _ _ (Nat.le_refl _) (Nat.le_refl _) s9.1 s9.2 s5.1 s5.2 true (by simp; exact HE2.out)).mono ?_
          rintro e wc ⟨rfl, bc⟩
          replace rs1 := sl_keep RInt.loc rs1 bc hhi
          replace rs2 := sl_keep RGr.loc rs2 bc hhi
          replace hhi := Nat.le_trans hhi bc.size
          replace hbw := below_below hbw bc
          replace k0 := blk_keep k0 bc
          replace ck0 := k0.cell
          replace fk0 := k0.frozen
          replace m0 := blk_keep m0 bc
          replace cm0 := m0.cell
          replace fm0 := m0.frozen
          replace p0 := blk_keep p0 bc
          replace cp0 := p0.cell
          replace fp0 := p0.frozen
          replace o3 := o3.below bc
          replace o5 := o5.below bc
          replace s3 := o3.reads HG.out
          replace s5 := o5.reads HG.out
          go_wp2_with fail
          refine (implRingOk_any r1 _ _ _ _ _ (Nat.le_refl _) s5.1 s5.2 true (by simp only [true_iff]; exact hR1.out)).mono ?_
          rintro e wd ⟨rfl, bd⟩
          go_wp2_with fail
          go_ret
          exact ⟨rfl, below_below hbw bd⟩

set_option maxRecDepth 100000 in
theorem lifted (os : Os) (started : os.Started) (H : Type) (enc : TypeId × Value → H) :
    ReturnsInHanded {} Try.checked os 15 .any (Rows.fnRingLetSpec.pre6 enc Try.prog Try.f15 Rows.fnRingLetRow.domain false) (Rows.fnRingLetSpec.post enc Try.prog Try.f15 false true false false) := by
  refine law_lifted own started (by kernel_rfl) Try.func15 laidOut (by kernel_rfl) rfl Try.underlying4 rfl (fun ds hl => ?_)
    (ChangeSpec.witness6 (enc := enc) (C := Try.checked) false ⟨#[], #[.slice none 0 0], []⟩ 8 (by kernel_rfl) (by kernel_rfl) (by kernel_rfl) (by kernel_rfl)) ?_
  · match ds, hl with
    | [_], _ => rfl
  intro W base args ds p hval0 hA hlt hsz hsh
  have hval : ∀ (j : Nat) t v, Try.f15.params[j]? = some t → args[j]? = some v → Value.okWide Try.prog W .any base t v := hval0
  rw [Try.params15] at hA hval
  obtain ⟨v0, d0, rfl, rfl, h0⟩ := trodAll_one hA
  obtain ⟨a0_0, r0⟩ := open_byte_slice (hval 0 34 v0 rfl rfl) h0 (by first | exact hlt | exact fun x hx => hlt x (by simp [hx]))
  exact walk a0_0 r0 W

set_option maxRecDepth 100000 in
theorem factsHold : joinedFacts Try.pinned.checked.prog 15 Try.f15 Rows.fnRingLetSpec Rows.fnRingLetRow = true := by
  unfold joinedFacts
  rw [liftsFinal, mayEnter, makeIs]
  kernel_rfl
set_option maxRecDepth 100000 in
theorem proved : Rows.FnRingLetSaid :=
  OpenClaim.holds_of_wide 15 Try.f15 rfl rfl rfl rfl rfl rfl rfl ⟨rfl, rfl, rfl, rfl, rfl⟩ rfl rfl rfl rfl rfl (by kernel_rfl) Try.func15 factsHold
    (of_decide_eq_true (by kernel_rfl)) (by unfold Func.isWrapper; first | (rw [if_pos (by decide +kernel)]; kernel_rfl) | (rw [if_neg (by decide +kernel)]; exact ⟨rfl, rfl⟩))
    (fun os started H enc _ => lifted os started H enc)
#print axioms proved
end Go.Proofs.Ytdbeclnoaeiaeaa.lawrl
