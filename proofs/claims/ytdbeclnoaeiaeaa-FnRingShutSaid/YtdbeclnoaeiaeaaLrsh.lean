


/- The law FnRingShut: who is shut out has no new key, ever. No condition. -/
import Derived.Test.YtdbeclnoaeiaeaaLaw
import Derived.Test.YtdbeclnoaeiaeaaDrX
import Derived.Test.YtdbeclnoaeiaeaaRgTi
import Derived.Test.YtdbeclnoaeiaeaaRgSi
import Derived.Test.YtdbeclnoaeiaeaaRgL
import Derived.Test.YtdbeclnoaeiaeaaLdR
import Derived.Test.YtdbeclnoaeiaeaaHeard
import Derived.Test.YtdbeclnoaeiaeaaEnter
import Derived.Test.YtdbeclnoaeiaeaaMake
namespace Go.Proofs.Ytdbeclnoaeiaeaa.lawrsh
open Go.RowKit Go.ChangeShapes Go.WideShapes Go.ChangeAt

theorem shut_later {r r1 r2 : Rg} {m key key2 e k : Int} {lt : Bool} (h : RShut r m key r1 true) (h2 : RTurn r1 key2 r2 true) (he : r.keys.length < e) (hk : RKey r2 m e k lt) : lt = false := by
  obtain ⟨_, _, rfl, _⟩ := turn_ring h2
  cases lt with
  | false => rfl
  | true => exact absurd (hk.ok_iff.1 rfl).2.2 (shut_new h he)
set_option maxRecDepth 8000 in
set_option maxHeartbeats 8000000 in
theorem walk (l : List Int) {v : Value} {w : World} (h : RSl RByte 1 w 0 w.heap.size l [v]) (l2 : List Int) {v2 : Value} (h2 : RSl RByte 1 w 0 w.heap.size l2 [v2]) (w' : World) (hw : w' = w := by rfl) :
    Calls Try.prog 13 #[v, v2] w' fun e w' => e = .returned (.bool true) ∧ Below w.heap.size w w' := by
  subst hw
  obtain ⟨A, c, rfl⟩ := h.form
  obtain ⟨A2, c2, rfl⟩ := h2.form
  have hlen : l.length ≤ maxLen := by obtain ⟨_, h1, h2⟩ := h.len_; omega
  have hlen2 : l2.length ≤ maxLen := by obtain ⟨_, h1, h2⟩ := h2.len_; omega
  unfold maxLen at hlen hlen2
  by_cases hbig : 1048576 < l.length
  · go_enter Try.func13, Try.ntmps13
    go_wp2_with fail
    go_ret
    exact ⟨rfl, Below.refl _ _⟩
  by_cases hbig2 : 1048576 < l2.length
  · go_enter Try.func13, Try.ntmps13
    go_wp2_with fail
    go_ret
    exact ⟨rfl, Below.refl _ _⟩
  go_enter Try.func13, Try.ntmps13
  go_wp2_with fail
  refine (drawRingShut_any l A _ c _ h).mono ?_
  rintro e w1 ⟨va, vb, rr, m, key, rfl, o1, f1, hm, hkey, hbw⟩
  obtain ⟨r1, ok1, hr1⟩ := RShut_total rr m key
  have hg1 := shut_good hr1 f1.good (in64_small (by omega))
  have hs1 := shut_sz hr1 (f1.sz (by omega))
  have hl1 := (f1.sz (by omega)).1
  have hl2 := (f1.sz (by omega)).2
  have HG := Lib.hid hg1; clear hg1
  have HS1 := Lib.hid hs1; clear hs1
  have HR := Lib.hid hr1; clear hr1
  have hkl := f1.keys
  have hgl := f1.grs
  have HF := Lib.hid f1; clear f1
  obtain ⟨A1, c1, rfl⟩ := o1.keys.form
  obtain ⟨B1, d1, rfl⟩ := o1.grs.form
  obtain ⟨rs1, rs2⟩ := o1.reads HF.out.good
  have hhi := Nat.le_refl w1.heap.size
  go_wp2_with fail
  have hbw2 : Below w1.heap.size w1 (w1.alloc (.cells #[.slice A1 rr.keys.length c1, .slice B1 rr.grs.length d1] 30)) := below_alloc _ _
  have k0 : Blk (w1.alloc (.cells #[.slice A1 rr.keys.length c1, .slice B1 rr.grs.length d1] 30)) (w1.heap.size) 30 #[.slice A1 rr.keys.length c1, .slice B1 rr.grs.length d1] := by
    have hk := Blk.new w1 30 #[.slice A1 rr.keys.length c1, .slice B1 rr.grs.length d1]
    exact hk
  have hsw2 : w1.heap.size + 1 ≤ (w1.alloc (.cells #[.slice A1 rr.keys.length c1, .slice B1 rr.grs.length d1] 30)).heap.size := by simp only [World.size_alloc]; omega
  generalize (w1.alloc (.cells #[.slice A1 rr.keys.length c1, .slice B1 rr.grs.length d1] 30)) = w2 at *
  have ck0 := k0.cell
  have fk0 := k0.frozen
  replace rs1 := sl_keep RInt.loc rs1 hbw2 hhi
  replace rs2 := sl_keep RGr.loc rs2 hbw2 hhi
  replace hhi := Nat.le_trans hhi hbw2.size
  replace hbw := below_below hbw hbw2
  refine (specRingShut_any rr m key _ _ _ _ _ hhi rs1 rs2 hl1 hl2 r1 ok1 HR.out).mono ?_
  rintro e w3 ⟨va3, vb3, rfl, o3, b3⟩
  obtain ⟨A3, c3, rfl⟩ := o3.keys.form
  obtain ⟨B3, d3, rfl⟩ := o3.grs.form
  replace rs1 := sl_keep RInt.loc rs1 b3 hhi
  replace rs2 := sl_keep RGr.loc rs2 b3 hhi
  replace hhi := Nat.le_trans hhi b3.size
  replace hbw := below_below hbw b3
  replace k0 := blk_keep k0 b3
  replace ck0 := k0.cell
  replace fk0 := k0.frozen
  have ax := below_alloc w3 (.cells #[.slice A3 r1.keys.length c3, .slice B3 r1.grs.length d3] 30)
  have ka0 := (blk_keep k0 ax).cell
  go_wp2_with fail
  clear ax ka0
  have hbw4 : Below w3.heap.size w3 (w3.alloc (.cells #[.slice A3 r1.keys.length c3, .slice B3 r1.grs.length d3] 30)) := below_alloc _ _
  have m0 : Blk (w3.alloc (.cells #[.slice A3 r1.keys.length c3, .slice B3 r1.grs.length d3] 30)) (w3.heap.size) 30 #[.slice A3 r1.keys.length c3, .slice B3 r1.grs.length d3] := by
    have hk := Blk.new w3 30 #[.slice A3 r1.keys.length c3, .slice B3 r1.grs.length d3]
    exact hk
  have hsw4 : w3.heap.size + 1 ≤ (w3.alloc (.cells #[.slice A3 r1.keys.length c3, .slice B3 r1.grs.length d3] 30)).heap.size := by simp only [World.size_alloc]; omega
  generalize (w3.alloc (.cells #[.slice A3 r1.keys.length c3, .slice B3 r1.grs.length d3] 30)) = w4 at *
  have cm0 := m0.cell
  have fm0 := m0.frozen
  replace rs1 := sl_keep RInt.loc rs1 hbw4 hhi
  replace rs2 := sl_keep RGr.loc rs2 hbw4 hhi
  replace hhi := Nat.le_trans hhi hbw4.size
  replace hbw := below_below hbw hbw4
  replace k0 := blk_keep k0 hbw4
  replace ck0 := k0.cell
  replace fk0 := k0.frozen
  replace o3 := o3.below hbw4
  refine (implRingShut_any rr m key _ _ _ _ _ hhi rs1 rs2 hl1 hl2 r1 ok1 HR.out).mono ?_
  rintro e w5 ⟨va5, vb5, rfl, o5, b5⟩
  obtain ⟨A5, c5, rfl⟩ := o5.keys.form
  obtain ⟨B5, d5, rfl⟩ := o5.grs.form
  replace rs1 := sl_keep RInt.loc rs1 b5 hhi
  replace rs2 := sl_keep RGr.loc rs2 b5 hhi
  replace hhi := Nat.le_trans hhi b5.size
  replace hbw := below_below hbw b5
  replace k0 := blk_keep k0 b5
  replace ck0 := k0.cell
  replace fk0 := k0.frozen
  replace m0 := blk_keep m0 b5
  replace cm0 := m0.cell
  replace fm0 := m0.frozen
  replace o3 := o3.below b5
  cases ok1 with
  | false =>
    have ax := below_alloc w5 (.cells #[.slice A5 r1.keys.length c5, .slice B5 r1.grs.length d5] 30)
    have ka0 := (blk_keep k0 ax).cell
    have ma0 := (blk_keep m0 ax).cell
    go_wp2_with fail
    clear ax ka0 ma0
    have hbw6 : Below w5.heap.size w5 (w5.alloc (.cells #[.slice A5 r1.keys.length c5, .slice B5 r1.grs.length d5] 30)) := below_alloc _ _
    have p0 : Blk (w5.alloc (.cells #[.slice A5 r1.keys.length c5, .slice B5 r1.grs.length d5] 30)) (w5.heap.size) 30 #[.slice A5 r1.keys.length c5, .slice B5 r1.grs.length d5] := by
      have hk := Blk.new w5 30 #[.slice A5 r1.keys.length c5, .slice B5 r1.grs.length d5]
      exact hk
    have hsw6 : w5.heap.size + 1 ≤ (w5.alloc (.cells #[.slice A5 r1.keys.length c5, .slice B5 r1.grs.length d5] 30)).heap.size := by simp only [World.size_alloc]; omega
    generalize (w5.alloc (.cells #[.slice A5 r1.keys.length c5, .slice B5 r1.grs.length d5] 30)) = w6 at *
    have cp0 := p0.cell
    have fp0 := p0.frozen
    replace rs1 := sl_keep RInt.loc rs1 hbw6 hhi
    replace rs2 := sl_keep RGr.loc rs2 hbw6 hhi
    replace hhi := Nat.le_trans hhi hbw6.size
    replace hbw := below_below hbw hbw6
    replace k0 := blk_keep k0 hbw6
    replace ck0 := k0.cell
    replace fk0 := k0.frozen
    replace m0 := blk_keep m0 hbw6
    replace cm0 := m0.cell
    replace fm0 := m0.frozen
    replace o3 := o3.below hbw6
    replace o5 := o5.below hbw6
    have s3 := o3.reads HG.out
    have s5 := o5.reads HG.out
    refine (ldRing_any r1 r1 _ _ _ _ _ _ _ _ _ (Nat.le_refl _) (Nat.le_refl _) s5.1 s5.2 s3.1 s3.2 true (by simp)).mono ?_
    rintro e w7 ⟨rfl, bw7⟩
    replace rs1 := sl_keep RInt.loc rs1 bw7 hhi
    replace rs2 := sl_keep RGr.loc rs2 bw7 hhi
    replace hhi := Nat.le_trans hhi bw7.size
    replace hbw := below_below hbw bw7
    replace k0 := blk_keep k0 bw7
    replace ck0 := k0.cell
    replace fk0 := k0.frozen
    replace m0 := blk_keep m0 bw7
    replace cm0 := m0.cell
    replace fm0 := m0.frozen
    replace p0 := blk_keep p0 bw7
    replace cp0 := p0.cell
    replace fp0 := p0.frozen
    replace o3 := o3.below bw7
    replace o5 := o5.below bw7
    replace s3 := o3.reads HG.out
    replace s5 := o5.reads HG.out
    go_wp2_with fail
    refine (ldRing_any r1 r1 _ _ _ _ _ _ _ _ _ (Nat.le_refl _) (Nat.le_refl _) s5.1 s5.2 s3.1 s3.2 true (by simp)).mono ?_
    rintro e w8 ⟨rfl, bw8⟩
    replace rs1 := sl_keep RInt.loc rs1 bw8 hhi
    replace rs2 := sl_keep RGr.loc rs2 bw8 hhi
    replace hhi := Nat.le_trans hhi bw8.size
    replace hbw := below_below hbw bw8
    replace k0 := blk_keep k0 bw8
    replace ck0 := k0.cell
    replace fk0 := k0.frozen
    replace m0 := blk_keep m0 bw8
    replace cm0 := m0.cell
    replace fm0 := m0.frozen
    replace p0 := blk_keep p0 bw8
    replace cp0 := p0.cell
    replace fp0 := p0.frozen
    replace o3 := o3.below bw8
    replace o5 := o5.below bw8
    replace s3 := o3.reads HG.out
    replace s5 := o5.reads HG.out
    go_wp2_with fail
    go_ret
    exact ⟨rfl, hbw⟩
  | true =>
    have ax := below_alloc w5 (.cells #[.slice A5 r1.keys.length c5, .slice B5 r1.grs.length d5] 30)
    have ka0 := (blk_keep k0 ax).cell
    have ma0 := (blk_keep m0 ax).cell
    go_wp2_with fail
    clear ax ka0 ma0
    have hbw6 : Below w5.heap.size w5 (w5.alloc (.cells #[.slice A5 r1.keys.length c5, .slice B5 r1.grs.length d5] 30)) := below_alloc _ _
    have p0 : Blk (w5.alloc (.cells #[.slice A5 r1.keys.length c5, .slice B5 r1.grs.length d5] 30)) (w5.heap.size) 30 #[.slice A5 r1.keys.length c5, .slice B5 r1.grs.length d5] := by
      have hk := Blk.new w5 30 #[.slice A5 r1.keys.length c5, .slice B5 r1.grs.length d5]
      exact hk
    have hsw6 : w5.heap.size + 1 ≤ (w5.alloc (.cells #[.slice A5 r1.keys.length c5, .slice B5 r1.grs.length d5] 30)).heap.size := by simp only [World.size_alloc]; omega
    generalize (w5.alloc (.cells #[.slice A5 r1.keys.length c5, .slice B5 r1.grs.length d5] 30)) = w6 at *
    have cp0 := p0.cell
    have fp0 := p0.frozen
    replace rs1 := sl_keep RInt.loc rs1 hbw6 hhi
    replace rs2 := sl_keep RGr.loc rs2 hbw6 hhi
    replace hhi := Nat.le_trans hhi hbw6.size
    replace hbw := below_below hbw hbw6
    replace k0 := blk_keep k0 hbw6
    replace ck0 := k0.cell
    replace fk0 := k0.frozen
    replace m0 := blk_keep m0 hbw6
    replace cm0 := m0.cell
    replace fm0 := m0.frozen
    replace o3 := o3.below hbw6
    replace o5 := o5.below hbw6
    have s3 := o3.reads HG.out
    have s5 := o5.reads HG.out
    refine (ldRing_any r1 r1 _ _ _ _ _ _ _ _ _ (Nat.le_refl _) (Nat.le_refl _) s5.1 s5.2 s3.1 s3.2 true (by simp)).mono ?_
    rintro e w7 ⟨rfl, bw7⟩
    replace rs1 := sl_keep RInt.loc rs1 bw7 hhi
    replace rs2 := sl_keep RGr.loc rs2 bw7 hhi
    replace hhi := Nat.le_trans hhi bw7.size
    replace hbw := below_below hbw bw7
    replace k0 := blk_keep k0 bw7
    replace ck0 := k0.cell
    replace fk0 := k0.frozen
    replace m0 := blk_keep m0 bw7
    replace cm0 := m0.cell
    replace fm0 := m0.frozen
    replace p0 := blk_keep p0 bw7
    replace cp0 := p0.cell
    replace fp0 := p0.frozen
    replace o3 := o3.below bw7
    replace o5 := o5.below bw7
    replace s3 := o3.reads HG.out
    replace s5 := o5.reads HG.out
    have hR1 := Lib.hid (shut_ring HR.out).2.2.1
    have m1 : 0 ≤ (l2.length : Int) % 30 := Int.emod_nonneg _ (by omega)
    have m2 : (l2.length : Int) % 30 < 30 := Int.emod_lt_of_pos _ (by omega)
    obtain ⟨k1, nw, hk1⟩ := RKey_total r1 m (rr.keys.length + 1)
    obtain rfl : nw = false := by
      cases nw with
      | false => rfl
      | true => exact absurd (hk1.ok_iff.1 rfl).2.2 (shut_new HR.out (by omega))
    have HK1 := Lib.hid hk1; clear hk1
    go_wp2_with fail
    refine (implRingKey_any r1 m (rr.keys.length + 1) _ _ _ _ _ (Nat.le_refl _) s5.1 s5.2 k1 false HK1.out).mono ?_
    rintro e w8 ⟨rfl, b8⟩
    replace rs1 := sl_keep RInt.loc rs1 b8 hhi
    replace rs2 := sl_keep RGr.loc rs2 b8 hhi
    replace hhi := Nat.le_trans hhi b8.size
    replace hbw := below_below hbw b8
    replace k0 := blk_keep k0 b8
    replace ck0 := k0.cell
    replace fk0 := k0.frozen
    replace m0 := blk_keep m0 b8
    replace cm0 := m0.cell
    replace fm0 := m0.frozen
    replace p0 := blk_keep p0 b8
    replace cp0 := p0.cell
    replace fp0 := p0.frozen
    replace o3 := o3.below b8
    replace o5 := o5.below b8
    replace s3 := o3.reads HG.out
    replace s5 := o5.reads HG.out
    obtain ⟨r2, tk, hr2⟩ := RTurn_total r1 (60 + (l2.length : Int) % 30)
    have HR2 := Lib.hid hr2; clear hr2
    go_wp2_with fail
    refine (implRingTurn_any r1 (60 + (l2.length : Int) % 30) _ _ _ _ _ (Nat.le_refl _) s5.1 s5.2 HS1.out.1 HS1.out.2 r2 tk HR2.out).mono ?_
    rintro e w9 ⟨va9, vb9, rfl, o9, b9⟩
    obtain ⟨A9, c9, rfl⟩ := o9.keys.form
    obtain ⟨B9, d9, rfl⟩ := o9.grs.form
    replace rs1 := sl_keep RInt.loc rs1 b9 hhi
    replace rs2 := sl_keep RGr.loc rs2 b9 hhi
    replace hhi := Nat.le_trans hhi b9.size
    replace hbw := below_below hbw b9
    replace k0 := blk_keep k0 b9
    replace ck0 := k0.cell
    replace fk0 := k0.frozen
    replace m0 := blk_keep m0 b9
    replace cm0 := m0.cell
    replace fm0 := m0.frozen
    replace p0 := blk_keep p0 b9
    replace cp0 := p0.cell
    replace fp0 := p0.frozen
    replace o3 := o3.below b9
    replace o5 := o5.below b9
    replace s3 := o3.reads HG.out
    replace s5 := o5.reads HG.out
    have ax := below_alloc w9 (.cells #[.slice A9 r2.keys.length c9, .slice B9 r2.grs.length d9] 30)
    have pa0 := (blk_keep p0 ax).cell
    go_wp2_with fail
    clear ax pa0
    have hbwa : Below w9.heap.size w9 (w9.alloc (.cells #[.slice A9 r2.keys.length c9, .slice B9 r2.grs.length d9] 30)) := below_alloc _ _
    have q0 : Blk (w9.alloc (.cells #[.slice A9 r2.keys.length c9, .slice B9 r2.grs.length d9] 30)) (w9.heap.size) 30 #[.slice A9 r2.keys.length c9, .slice B9 r2.grs.length d9] := by
      have hk := Blk.new w9 30 #[.slice A9 r2.keys.length c9, .slice B9 r2.grs.length d9]
      exact hk
    have hswa : w9.heap.size + 1 ≤ (w9.alloc (.cells #[.slice A9 r2.keys.length c9, .slice B9 r2.grs.length d9] 30)).heap.size := by simp only [World.size_alloc]; omega
    generalize (w9.alloc (.cells #[.slice A9 r2.keys.length c9, .slice B9 r2.grs.length d9] 30)) = wa at *
    have cq0 := q0.cell
    have fq0 := q0.frozen
    replace rs1 := sl_keep RInt.loc rs1 hbwa hhi
    replace rs2 := sl_keep RGr.loc rs2 hbwa hhi
    replace hhi := Nat.le_trans hhi hbwa.size
    replace hbw := below_below hbw hbwa
    replace k0 := blk_keep k0 hbwa
    replace ck0 := k0.cell
    replace fk0 := k0.frozen
    replace m0 := blk_keep m0 hbwa
    replace cm0 := m0.cell
    replace fm0 := m0.frozen
    replace p0 := blk_keep p0 hbwa
    replace cp0 := p0.cell
    replace fp0 := p0.frozen
    replace o3 := o3.below hbwa
    replace o5 := o5.below hbwa
    replace s3 := o3.reads HG.out
    replace s5 := o5.reads HG.out
    replace o9 := o9.below hbwa
    have s9 := o9.reads (turn_good HR2.out HG.out (in64_small (by omega)))
    obtain ⟨k2, lt, hk2⟩ := RKey_total r2 m (rr.keys.length + 2)
    have hlt2 : tk = true → lt = false := fun e => by
      subst e
      exact shut_later HR.out HR2.out (by omega) hk2
    have HK2 := Lib.hid hk2; clear hk2
    refine (implRingKey_any r2 m (rr.keys.length + 2) _ _ _ _ _ (Nat.le_refl _) s9.1 s9.2 k2 lt HK2.out).mono ?_
    rintro e wb ⟨rfl, bb⟩
    replace rs1 := sl_keep RInt.loc rs1 bb hhi
    replace rs2 := sl_keep RGr.loc rs2 bb hhi
    replace hhi := Nat.le_trans hhi bb.size
    replace hbw := below_below hbw bb
    replace k0 := blk_keep k0 bb
    replace ck0 := k0.cell
    replace fk0 := k0.frozen
    replace m0 := blk_keep m0 bb
    replace cm0 := m0.cell
    replace fm0 := m0.frozen
    replace p0 := blk_keep p0 bb
    replace cp0 := p0.cell
    replace fp0 := p0.frozen
    replace o3 := o3.below bb
    replace o5 := o5.below bb
    replace s3 := o3.reads HG.out
    replace s5 := o5.reads HG.out
    obtain ⟨n0, hn0⟩ := RMany_total rr m
    have HN1 := Lib.hid (shut_many HR.out hn0)
    have HN0 := Lib.hid hn0; clear hn0
    clear q0 cq0 fq0 o9 s9 hswa
    have hcase : (tk = false ∧ lt = false) ∨ (tk = false ∧ lt = true) ∨ (tk = true ∧ lt = false) := by
      cases tk with
      | true => exact .inr (.inr ⟨rfl, hlt2 rfl⟩)
      | false => cases lt with
        | true => exact .inr (.inl ⟨rfl, rfl⟩)
        | false => exact .inl ⟨rfl, rfl⟩
    clear hlt2
    rcases hcase with ⟨rfl, rfl⟩ | ⟨rfl, rfl⟩ | ⟨rfl, rfl⟩
    · go_wp2_with fail
      go_loopw [19] (fun oo wr => ∃ o : Int, oo = .int .i64 o ∧ 1 ≤ o ∧ o ≤ 5 ∧ Below wb.heap.size wb wr) (fun oo _ => (5 - intOf oo).toNat)
      case atStart => exact ⟨1, rfl, by omega, by omega, Below.refl _ _⟩
      case round =>
        obtain ⟨o, rfl, ho1, ho5, bw⟩ := hrel
        have ss5 := s5
        replace rs1 := sl_keep RInt.loc rs1 bw hhi
        replace rs2 := sl_keep RGr.loc rs2 bw hhi
        replace hhi := Nat.le_trans hhi bw.size
        replace hbw := below_below hbw bw
        replace k0 := blk_keep k0 bw
        replace ck0 := k0.cell
        replace fk0 := k0.frozen
        replace m0 := blk_keep m0 bw
        replace cm0 := m0.cell
        replace fm0 := m0.frozen
        replace p0 := blk_keep p0 bw
        replace cp0 := p0.cell
        replace fp0 := p0.frozen
        replace o3 := o3.below bw
        replace o5 := o5.below bw
        replace s3 := o3.reads HG.out
        replace s5 := o5.reads HG.out
        by_cases hlt : o ≤ 4
        · go_wp2_with fail
          go_loopw [20, 21] (fun oo ii wy => ∃ (j : Nat) (b : Bool), j ≤ rr.grs.length ∧ oo = .bool b ∧ ii = .int .i64 j ∧ opTo rr o j b ∧ Below wr.heap.size wr wy) (fun oo ii _ => rr.grs.length - (intOf ii).toNat)
          case atStart => exact ⟨0, false, Nat.zero_le _, rfl, rfl, by simp [opTo], Below.refl _ _⟩
          case round =>
            obtain ⟨j, b, hj, rfl, rfl, hop, by_⟩ := hrel
            have HO := Lib.hid hop; clear hop
            replace rs1 := sl_keep RInt.loc rs1 by_ hhi
            replace rs2 := sl_keep RGr.loc rs2 by_ hhi
            replace hhi := Nat.le_trans hhi by_.size
            replace hbw := below_below hbw by_
            replace k0 := blk_keep k0 by_
            replace ck0 := k0.cell
            replace fk0 := k0.frozen
            replace m0 := blk_keep m0 by_
            replace cm0 := m0.cell
            replace fm0 := m0.frozen
            replace p0 := blk_keep p0 by_
            replace cp0 := p0.cell
            replace fp0 := p0.frozen
            replace o3 := o3.below by_
            replace o5 := o5.below by_
            replace s3 := o3.reads HG.out
            replace s5 := o5.reads HG.out
            by_cases hjl : j < rr.grs.length
            · obtain ⟨x, hxk⟩ := some_of_lt hjl
              obtain ⟨b1, off, rfl, _, _, h64, hcell, hcell1, hcell2⟩ := rs2.grs_at hxk
              have HX := Lib.hid hxk; clear hxk
              cases b with
              | true =>
                have HN := Lib.hid (opTo_step HO.out HX.out (b' := true) (by simp))
                go_wp2_with fail
                go_roundw
                case rel => exact ⟨j + 1, true, by omega, rfl, by go_num, HN.out, by_⟩
                case measure => simp [intOf]; omega
              | false =>
                by_cases q1 : x.m = o
                · have t1 : (x.m == o) = true := beq_iff_eq.2 q1
                  by_cases q2 : x.t = 0
                  · have HN := Lib.hid (opTo_step HO.out HX.out (b' := true) (by simp [q1, q2]))
                    have t2 : (x.t == 0) = true := beq_iff_eq.2 q2
                    clear q1 q2
                    go_wp2_with fail
                    go_roundw
                    case rel => exact ⟨j + 1, true, by omega, rfl, by go_num, HN.out, by_⟩
                    case measure => simp [intOf]; omega
                  · have HN := Lib.hid (opTo_step HO.out HX.out (b' := false) (by simp [q2]))
                    have t2 : (x.t == 0) = false := beq_eq_false_iff_ne.2 q2
                    clear q1 q2
                    go_wp2_with fail
                    go_roundw
                    case rel => exact ⟨j + 1, false, by omega, rfl, by go_num, HN.out, by_⟩
                    case measure => simp [intOf]; omega
                · have HN := Lib.hid (opTo_step HO.out HX.out (b' := false) (by simp [q1]))
                  have t1 : (x.m == o) = false := beq_eq_false_iff_ne.2 q1
                  clear q1
                  go_wp2_with fail
                  go_roundw
                  case rel => exact ⟨j + 1, false, by omega, rfl, by go_num, HN.out, by_⟩
                  case measure => simp [intOf]; omega
            · obtain rfl : j = rr.grs.length := by omega
              have hb : b = true ↔ openP rr o := by
                have := HO.out
                unfold opTo at this
                rw [List.take_length] at this
                exact this
              clear HO
              obtain ⟨k, has, hk⟩ := RKey_total r1 o (rr.keys.length + 1)
              have hbo : o ≠ m → has = b := fun hom => by
                rw [Bool.eq_iff_iff, hb]
                exact shut_open HR.out hom hk
              clear hb
              have HK := Lib.hid hk; clear hk
              clear hj hjl
              go_wp2_with fail
              refine (implRingKey_any r1 o (rr.keys.length + 1) _ _ _ _ _ (Nat.le_refl _) s5.1 s5.2 k has HK.out).mono ?_
              rintro e wc ⟨rfl, bc⟩
              replace rs1 := sl_keep RInt.loc rs1 bc hhi
              replace rs2 := sl_keep RGr.loc rs2 bc hhi
              replace hhi := Nat.le_trans hhi bc.size
              replace hbw := below_below hbw bc
              replace k0 := blk_keep k0 bc
              replace ck0 := k0.cell
              replace fk0 := k0.frozen
              replace m0 := blk_keep m0 bc
              replace cm0 := m0.cell
              replace fm0 := m0.frozen
              replace p0 := blk_keep p0 bc
              replace cp0 := p0.cell
              replace fp0 := p0.frozen
              replace o3 := o3.below bc
              replace o5 := o5.below bc
              replace s3 := o3.reads HG.out
              replace s5 := o5.reads HG.out
              by_cases hom : o = m
              · have t1 : (o != m) = false := by rw [bne_eq_false_iff_eq]; exact hom
                have HOM := Lib.hid hom; clear hom hbo
                go_wp2_with fail
                go_roundw
                case rel => exact ⟨o + 1, by go_num, by omega, by omega, below_below (below_below bw by_) bc⟩
                case measure => simp [intOf]; omega
              · have t1 : (o != m) = true := by rw [bne_iff_ne]; exact hom
                have hbe := hbo hom
                subst hbe
                clear hom hbo
                cases has
                all_goals
                  go_wp2_with fail
                  go_roundw
                  case rel => exact ⟨o + 1, by go_num, by omega, by omega, below_below (below_below bw by_) bc⟩
                  case measure => simp [intOf]; omega
        · have ca0 : wr.cell? ⟨w1.heap.size, 0, none⟩ = some (.slice A1 rr.keys.length c1) := k0.cell 0
          have ca1 : wr.cell? ⟨w1.heap.size, 1, none⟩ = some (.slice B1 rr.grs.length d1) := k0.cell 1
          have cb0 : wr.cell? ⟨w5.heap.size, 0, none⟩ = some (.slice A5 r1.keys.length c5) := p0.cell 0
          have cb1 : wr.cell? ⟨w5.heap.size, 1, none⟩ = some (.slice B5 r1.grs.length d5) := p0.cell 1
          go_wp2_with fail
          have past0 := past_cell ca0
          have past1 := past_cell ca1
          have past2 := past_cell cb0
          have past3 := past_cell cb1
          refine region_past (by kernel_rfl) (by kernel_rfl) ?_
          repeat (go_big_quiet_step (fail))
          go_big_quiet_step ((go_at_call 29; refine past_call (implRingMany_any r1 m (.slice A5 r1.keys.length c5) (.slice B5 r1.grs.length d5) _ _ _ (Past.ok _).size (sl_keep RInt.loc s5.1 (Past.ok _) (Nat.le_refl _)) (sl_keep RGr.loc s5.2 (Past.ok _) (Nat.le_refl _)) n0 HN1.out)))
          repeat (go_big_quiet_step (fail))
          go_big_quiet_step ((go_at_call 29; refine past_call (implRingMany_any rr m (.slice A1 rr.keys.length c1) (.slice B1 rr.grs.length d1) _ _ _ (Nat.le_trans hhi (Past.ok _).size) (sl_keep RInt.loc rs1 (Past.ok _) hhi) (sl_keep RGr.loc rs2 (Past.ok _) hhi) n0 HN0.out)))
          repeat (go_big_quiet_step (fail))
          go_big_quiet_step ((go_at_call 22; refine past_call (implRingOk_any r1 (.slice A5 r1.keys.length c5) (.slice B5 r1.grs.length d5) _ _ _ (Past.ok _).size (sl_keep RInt.loc s5.1 (Past.ok _) (Nat.le_refl _)) (sl_keep RGr.loc s5.2 (Past.ok _) (Nat.le_refl _)) true (by simp only [true_iff]; exact hR1.out))))
          repeat (go_big_quiet_step (fail))
          refine wpQuiet_nil ?_
          intro wq hw1
          have hq := past_out hw1
          clear hw1 past0 past1 past2 past3
          go_wp2_with fail
          go_ret
          exact ⟨rfl, below_below hbw hq⟩
    · go_wp2_with fail
      go_loopw [19] (fun oo wr => ∃ o : Int, oo = .int .i64 o ∧ 1 ≤ o ∧ o ≤ 5 ∧ Below wb.heap.size wb wr) (fun oo _ => (5 - intOf oo).toNat)
      case atStart => exact ⟨1, rfl, by omega, by omega, Below.refl _ _⟩
      case round =>
        obtain ⟨o, rfl, ho1, ho5, bw⟩ := hrel
        have ss5 := s5
        replace rs1 := sl_keep RInt.loc rs1 bw hhi
        replace rs2 := sl_keep RGr.loc rs2 bw hhi
        replace hhi := Nat.le_trans hhi bw.size
        replace hbw := below_below hbw bw
        replace k0 := blk_keep k0 bw
        replace ck0 := k0.cell
        replace fk0 := k0.frozen
        replace m0 := blk_keep m0 bw
        replace cm0 := m0.cell
        replace fm0 := m0.frozen
        replace p0 := blk_keep p0 bw
        replace cp0 := p0.cell
        replace fp0 := p0.frozen
        replace o3 := o3.below bw
        replace o5 := o5.below bw
        replace s3 := o3.reads HG.out
        replace s5 := o5.reads HG.out
        by_cases hlt : o ≤ 4
        · go_wp2_with fail
          go_loopw [20, 21] (fun oo ii wy => ∃ (j : Nat) (b : Bool), j ≤ rr.grs.length ∧ oo = .bool b ∧ ii = .int .i64 j ∧ opTo rr o j b ∧ Below wr.heap.size wr wy) (fun oo ii _ => rr.grs.length - (intOf ii).toNat)
          case atStart => exact ⟨0, false, Nat.zero_le _, rfl, rfl, by simp [opTo], Below.refl _ _⟩
          case round =>
            obtain ⟨j, b, hj, rfl, rfl, hop, by_⟩ := hrel
            have HO := Lib.hid hop; clear hop
            replace rs1 := sl_keep RInt.loc rs1 by_ hhi
            replace rs2 := sl_keep RGr.loc rs2 by_ hhi
            replace hhi := Nat.le_trans hhi by_.size
            replace hbw := below_below hbw by_
            replace k0 := blk_keep k0 by_
            replace ck0 := k0.cell
            replace fk0 := k0.frozen
            replace m0 := blk_keep m0 by_
            replace cm0 := m0.cell
            replace fm0 := m0.frozen
            replace p0 := blk_keep p0 by_
            replace cp0 := p0.cell
            replace fp0 := p0.frozen
            replace o3 := o3.below by_
            replace o5 := o5.below by_
            replace s3 := o3.reads HG.out
            replace s5 := o5.reads HG.out
            by_cases hjl : j < rr.grs.length
            · obtain ⟨x, hxk⟩ := some_of_lt hjl
              obtain ⟨b1, off, rfl, _, _, h64, hcell, hcell1, hcell2⟩ := rs2.grs_at hxk
              have HX := Lib.hid hxk; clear hxk
              cases b with
              | true =>
                have HN := Lib.hid (opTo_step HO.out HX.out (b' := true) (by simp))
                go_wp2_with fail
                go_roundw
                case rel => exact ⟨j + 1, true, by omega, rfl, by go_num, HN.out, by_⟩
                case measure => simp [intOf]; omega
              | false =>
                by_cases q1 : x.m = o
                · have t1 : (x.m == o) = true := beq_iff_eq.2 q1
                  by_cases q2 : x.t = 0
                  · have HN := Lib.hid (opTo_step HO.out HX.out (b' := true) (by simp [q1, q2]))
                    have t2 : (x.t == 0) = true := beq_iff_eq.2 q2
                    clear q1 q2
                    go_wp2_with fail
                    go_roundw
                    case rel => exact ⟨j + 1, true, by omega, rfl, by go_num, HN.out, by_⟩
                    case measure => simp [intOf]; omega
                  · have HN := Lib.hid (opTo_step HO.out HX.out (b' := false) (by simp [q2]))
                    have t2 : (x.t == 0) = false := beq_eq_false_iff_ne.2 q2
                    clear q1 q2
                    go_wp2_with fail
                    go_roundw
                    case rel => exact ⟨j + 1, false, by omega, rfl, by go_num, HN.out, by_⟩
                    case measure => simp [intOf]; omega
                · have HN := Lib.hid (opTo_step HO.out HX.out (b' := false) (by simp [q1]))
                  have t1 : (x.m == o) = false := beq_eq_false_iff_ne.2 q1
                  clear q1
                  go_wp2_with fail
                  go_roundw
                  case rel => exact ⟨j + 1, false, by omega, rfl, by go_num, HN.out, by_⟩
                  case measure => simp [intOf]; omega
            · obtain rfl : j = rr.grs.length := by omega
              have hb : b = true ↔ openP rr o := by
                have := HO.out
                unfold opTo at this
                rw [List.take_length] at this
                exact this
              clear HO
              obtain ⟨k, has, hk⟩ := RKey_total r1 o (rr.keys.length + 1)
              have hbo : o ≠ m → has = b := fun hom => by
                rw [Bool.eq_iff_iff, hb]
                exact shut_open HR.out hom hk
              clear hb
              have HK := Lib.hid hk; clear hk
              clear hj hjl
              go_wp2_with fail
              refine (implRingKey_any r1 o (rr.keys.length + 1) _ _ _ _ _ (Nat.le_refl _) s5.1 s5.2 k has HK.out).mono ?_
              rintro e wc ⟨rfl, bc⟩
              replace rs1 := sl_keep RInt.loc rs1 bc hhi
              replace rs2 := sl_keep RGr.loc rs2 bc hhi
              replace hhi := Nat.le_trans hhi bc.size
              replace hbw := below_below hbw bc
              replace k0 := blk_keep k0 bc
              replace ck0 := k0.cell
              replace fk0 := k0.frozen
              replace m0 := blk_keep m0 bc
              replace cm0 := m0.cell
              replace fm0 := m0.frozen
              replace p0 := blk_keep p0 bc
              replace cp0 := p0.cell
              replace fp0 := p0.frozen
              replace o3 := o3.below bc
              replace o5 := o5.below bc
              replace s3 := o3.reads HG.out
              replace s5 := o5.reads HG.out
              by_cases hom : o = m
              · have t1 : (o != m) = false := by rw [bne_eq_false_iff_eq]; exact hom
                have HOM := Lib.hid hom; clear hom hbo
                go_wp2_with fail
                go_roundw
                case rel => exact ⟨o + 1, by go_num, by omega, by omega, below_below (below_below bw by_) bc⟩
                case measure => simp [intOf]; omega
              · have t1 : (o != m) = true := by rw [bne_iff_ne]; exact hom
                have hbe := hbo hom
                subst hbe
                clear hom hbo
                cases has
                all_goals
                  go_wp2_with fail
                  go_roundw
                  case rel => exact ⟨o + 1, by go_num, by omega, by omega, below_below (below_below bw by_) bc⟩
                  case measure => simp [intOf]; omega
        · have ca0 : wr.cell? ⟨w1.heap.size, 0, none⟩ = some (.slice A1 rr.keys.length c1) := k0.cell 0
          have ca1 : wr.cell? ⟨w1.heap.size, 1, none⟩ = some (.slice B1 rr.grs.length d1) := k0.cell 1
          have cb0 : wr.cell? ⟨w5.heap.size, 0, none⟩ = some (.slice A5 r1.keys.length c5) := p0.cell 0
          have cb1 : wr.cell? ⟨w5.heap.size, 1, none⟩ = some (.slice B5 r1.grs.length d5) := p0.cell 1
          go_wp2_with fail
          have past0 := past_cell ca0
          have past1 := past_cell ca1
          have past2 := past_cell cb0
          have past3 := past_cell cb1
          refine region_past (by kernel_rfl) (by kernel_rfl) ?_
          repeat (go_big_quiet_step (fail))
          go_big_quiet_step ((go_at_call 29; refine past_call (implRingMany_any r1 m (.slice A5 r1.keys.length c5) (.slice B5 r1.grs.length d5) _ _ _ (Past.ok _).size (sl_keep RInt.loc s5.1 (Past.ok _) (Nat.le_refl _)) (sl_keep RGr.loc s5.2 (Past.ok _) (Nat.le_refl _)) n0 HN1.out)))
          repeat (go_big_quiet_step (fail))
          go_big_quiet_step ((go_at_call 29; refine past_call (implRingMany_any rr m (.slice A1 rr.keys.length c1) (.slice B1 rr.grs.length d1) _ _ _ (Nat.le_trans hhi (Past.ok _).size) (sl_keep RInt.loc rs1 (Past.ok _) hhi) (sl_keep RGr.loc rs2 (Past.ok _) hhi) n0 HN0.out)))
          repeat (go_big_quiet_step (fail))
          go_big_quiet_step ((go_at_call 22; refine past_call (implRingOk_any r1 (.slice A5 r1.keys.length c5) (.slice B5 r1.grs.length d5) _ _ _ (Past.ok _).size (sl_keep RInt.loc s5.1 (Past.ok _) (Nat.le_refl _)) (sl_keep RGr.loc s5.2 (Past.ok _) (Nat.le_refl _)) true (by simp only [true_iff]; exact hR1.out))))
          repeat (go_big_quiet_step (fail))
          refine wpQuiet_nil ?_
          intro wq hw1
          have hq := past_out hw1
          clear hw1 past0 past1 past2 past3
          go_wp2_with fail
          go_ret
          exact ⟨rfl, below_below hbw hq⟩
    · go_wp2_with fail
      go_loopw [19] (fun oo wr => ∃ o : Int, oo = .int .i64 o ∧ 1 ≤ o ∧ o ≤ 5 ∧ Below wb.heap.size wb wr) (fun oo _ => (5 - intOf oo).toNat)
      case atStart => exact ⟨1, rfl, by omega, by omega, Below.refl _ _⟩
      case round =>
        obtain ⟨o, rfl, ho1, ho5, bw⟩ := hrel
        have ss5 := s5
        replace rs1 := sl_keep RInt.loc rs1 bw hhi
        replace rs2 := sl_keep RGr.loc rs2 bw hhi
        replace hhi := Nat.le_trans hhi bw.size
        replace hbw := below_below hbw bw
        replace k0 := blk_keep k0 bw
        replace ck0 := k0.cell
        replace fk0 := k0.frozen
        replace m0 := blk_keep m0 bw
        replace cm0 := m0.cell
        replace fm0 := m0.frozen
        replace p0 := blk_keep p0 bw
        replace cp0 := p0.cell
        replace fp0 := p0.frozen
        replace o3 := o3.below bw
        replace o5 := o5.below bw
        replace s3 := o3.reads HG.out
        replace s5 := o5.reads HG.out
        by_cases hlt : o ≤ 4
        · go_wp2_with fail
          go_loopw [20, 21] (fun oo ii wy => ∃ (j : Nat) (b : Bool), j ≤ rr.grs.length ∧ oo = .bool b ∧ ii = .int .i64 j ∧ opTo rr o j b ∧ Below wr.heap.size wr wy) (fun oo ii _ => rr.grs.length - (intOf ii).toNat)
          case atStart => exact ⟨0, false, Nat.zero_le _, rfl, rfl, by simp [opTo], Below.refl _ _⟩
          case round =>
            obtain ⟨j, b, hj, rfl, rfl, hop, by_⟩ := hrel
            have HO := Lib.hid hop; clear hop
            replace rs1 := sl_keep RInt.loc rs1 by_ hhi
            replace rs2 := sl_keep RGr.loc rs2 by_ hhi
            replace hhi := Nat.le_trans hhi by_.size
            replace hbw := below_below hbw by_
            replace k0 := blk_keep k0 by_
            replace ck0 := k0.cell
            replace fk0 := k0.frozen
            replace m0 := blk_keep m0 by_
            replace cm0 := m0.cell
            replace fm0 := m0.frozen
            replace p0 := blk_keep p0 by_
            replace cp0 := p0.cell
            replace fp0 := p0.frozen
            replace o3 := o3.below by_
            replace o5 := o5.below by_
            replace s3 := o3.reads HG.out
            replace s5 := o5.reads HG.out
            by_cases hjl : j < rr.grs.length
            · obtain ⟨x, hxk⟩ := some_of_lt hjl
              obtain ⟨b1, off, rfl, _, _, h64, hcell, hcell1, hcell2⟩ := rs2.grs_at hxk
              have HX := Lib.hid hxk; clear hxk
              cases b with
              | true =>
                have HN := Lib.hid (opTo_step HO.out HX.out (b' := true) (by simp))
                go_wp2_with fail
                go_roundw
                case rel => exact ⟨j + 1, true, by omega, rfl, by go_num, HN.out, by_⟩
                case measure => simp [intOf]; omega
              | false =>
                by_cases q1 : x.m = o
                · have t1 : (x.m == o) = true := beq_iff_eq.2 q1
                  by_cases q2 : x.t = 0
                  · have HN := Lib.hid (opTo_step HO.out HX.out (b' := true) (by simp [q1, q2]))
                    have t2 : (x.t == 0) = true := beq_iff_eq.2 q2
                    clear q1 q2
                    go_wp2_with fail
                    go_roundw
                    case rel => exact ⟨j + 1, true, by omega, rfl, by go_num, HN.out, by_⟩
                    case measure => simp [intOf]; omega
                  · have HN := Lib.hid (opTo_step HO.out HX.out (b' := false) (by simp [q2]))
                    have t2 : (x.t == 0) = false := beq_eq_false_iff_ne.2 q2
                    clear q1 q2
                    go_wp2_with fail
                    go_roundw
                    case rel => exact ⟨j + 1, false, by omega, rfl, by go_num, HN.out, by_⟩
                    case measure => simp [intOf]; omega
                · have HN := Lib.hid (opTo_step HO.out HX.out (b' := false) (by simp [q1]))
                  have t1 : (x.m == o) = false := beq_eq_false_iff_ne.2 q1
                  clear q1
                  go_wp2_with fail
                  go_roundw
                  case rel => exact ⟨j + 1, false, by omega, rfl, by go_num, HN.out, by_⟩
                  case measure => simp [intOf]; omega
            · obtain rfl : j = rr.grs.length := by omega
              have hb : b = true ↔ openP rr o := by
                have := HO.out
                unfold opTo at this
                rw [List.take_length] at this
                exact this
              clear HO
              obtain ⟨k, has, hk⟩ := RKey_total r1 o (rr.keys.length + 1)
              have hbo : o ≠ m → has = b := fun hom => by
                rw [Bool.eq_iff_iff, hb]
                exact shut_open HR.out hom hk
              clear hb
              have HK := Lib.hid hk; clear hk
              clear hj hjl
              go_wp2_with fail
              refine (implRingKey_any r1 o (rr.keys.length + 1) _ _ _ _ _ (Nat.le_refl _) s5.1 s5.2 k has HK.out).mono ?_
              rintro e wc ⟨rfl, bc⟩
              replace rs1 := sl_keep RInt.loc rs1 bc hhi
              replace rs2 := sl_keep RGr.loc rs2 bc hhi
              replace hhi := Nat.le_trans hhi bc.size
              replace hbw := below_below hbw bc
              replace k0 := blk_keep k0 bc
              replace ck0 := k0.cell
              replace fk0 := k0.frozen
              replace m0 := blk_keep m0 bc
              replace cm0 := m0.cell
              replace fm0 := m0.frozen
              replace p0 := blk_keep p0 bc
              replace cp0 := p0.cell
              replace fp0 := p0.frozen
              replace o3 := o3.below bc
              replace o5 := o5.below bc
              replace s3 := o3.reads HG.out
              replace s5 := o5.reads HG.out
              by_cases hom : o = m
              · have t1 : (o != m) = false := by rw [bne_eq_false_iff_eq]; exact hom
                have HOM := Lib.hid hom; clear hom hbo
                go_wp2_with fail
                go_roundw
                case rel => exact ⟨o + 1, by go_num, by omega, by omega, below_below (below_below bw by_) bc⟩
                case measure => simp [intOf]; omega
              · have t1 : (o != m) = true := by rw [bne_iff_ne]; exact hom
                have hbe := hbo hom
                subst hbe
                clear hom hbo
                cases has
                all_goals
                  go_wp2_with fail
                  go_roundw
                  case rel => exact ⟨o + 1, by go_num, by omega, by omega, below_below (below_below bw by_) bc⟩
                  case measure => simp [intOf]; omega
        · have ca0 : wr.cell? ⟨w1.heap.size, 0, none⟩ = some (.slice A1 rr.keys.length c1) := k0.cell 0
          have ca1 : wr.cell? ⟨w1.heap.size, 1, none⟩ = some (.slice B1 rr.grs.length d1) := k0.cell 1
          have cb0 : wr.cell? ⟨w5.heap.size, 0, none⟩ = some (.slice A5 r1.keys.length c5) := p0.cell 0
          have cb1 : wr.cell? ⟨w5.heap.size, 1, none⟩ = some (.slice B5 r1.grs.length d5) := p0.cell 1
          go_wp2_with fail
          have past0 := past_cell ca0
          have past1 := past_cell ca1
          have past2 := past_cell cb0
          have past3 := past_cell cb1
          refine region_past (by kernel_rfl) (by kernel_rfl) ?_
          repeat (go_big_quiet_step (fail))
          go_big_quiet_step ((go_at_call 29; refine past_call (implRingMany_any r1 m (.slice A5 r1.keys.length c5) (.slice B5 r1.grs.length d5) _ _ _ (Past.ok _).size (sl_keep RInt.loc s5.1 (Past.ok _) (Nat.le_refl _)) (sl_keep RGr.loc s5.2 (Past.ok _) (Nat.le_refl _)) n0 HN1.out)))
          repeat (go_big_quiet_step (fail))
          go_big_quiet_step ((go_at_call 29; refine past_call (implRingMany_any rr m (.slice A1 rr.keys.length c1) (.slice B1 rr.grs.length d1) _ _ _ (Nat.le_trans hhi (Past.ok _).size) (sl_keep RInt.loc rs1 (Past.ok _) hhi) (sl_keep RGr.loc rs2 (Past.ok _) hhi) n0 HN0.out)))
          repeat (go_big_quiet_step (fail))
          go_big_quiet_step ((go_at_call 22; refine past_call (implRingOk_any r1 (.slice A5 r1.keys.length c5) (.slice B5 r1.grs.length d5) _ _ _ (Past.ok _).size (sl_keep RInt.loc s5.1 (Past.ok _) (Nat.le_refl _)) (sl_keep RGr.loc s5.2 (Past.ok _) (Nat.le_refl _)) true (by simp only [true_iff]; exact hR1.out))))
          repeat (go_big_quiet_step (fail))
          refine wpQuiet_nil ?_
          intro wq hw1
          have hq := past_out hw1
          clear hw1 past0 past1 past2 past3
          go_wp2_with fail
          go_ret
          exact ⟨rfl, below_below hbw hq⟩

set_option maxRecDepth 100000 in
theorem lifted (os : Os) (started : os.Started) (H : Type) (enc : TypeId × Value → H) :
    ReturnsInHanded {} Try.checked os 13 .any (Rows.fnRingShutSpec.pre6 enc Try.prog Try.f13 Rows.fnRingShutRow.domain false) (Rows.fnRingShutSpec.post enc Try.prog Try.f13 false true false false) := by
  refine law_lifted own started (by kernel_rfl) Try.func13 laidOut (by kernel_rfl) rfl Try.underlying4 rfl (fun ds hl => ?_)
    (ChangeSpec.witness6 (enc := enc) (C := Try.checked) false ⟨#[], #[.slice none 0 0, .slice none 0 0], []⟩ 8 (by kernel_rfl) (by kernel_rfl) (by kernel_rfl) (by kernel_rfl)) ?_
  · match ds, hl with
    | [_, _], _ => rfl
  intro W base args ds p hval0 hA hlt hsz hsh
  have hval : ∀ (j : Nat) t v, Try.f13.params[j]? = some t → args[j]? = some v → Value.okWide Try.prog W .any base t v := hval0
  rw [Try.params13] at hA hval
  obtain ⟨v0, v1, d0, d1, p0, p1, rfl, rfl, rfl, h0, h1⟩ := trodAll_two hA
  obtain ⟨a0_0, r0⟩ := open_byte_slice (hval 0 34 v0 rfl rfl) h0 (by first | exact hlt | exact fun x hx => hlt x (by simp [hx]))
  obtain ⟨a1_0, r1⟩ := open_byte_slice (hval 1 34 v1 rfl rfl) h1 (by first | exact hlt | exact fun x hx => hlt x (by simp [hx]))
  exact walk a0_0 r0 a1_0 r1 W

set_option maxRecDepth 100000 in
theorem factsHold : joinedFacts Try.pinned.checked.prog 13 Try.f13 Rows.fnRingShutSpec Rows.fnRingShutRow = true := by
  unfold joinedFacts
  rw [liftsFinal, mayEnter, makeIs]
  kernel_rfl
set_option maxRecDepth 100000 in
theorem proved : Rows.FnRingShutSaid :=
  OpenClaim.holds_of_wide 13 Try.f13 rfl rfl rfl rfl rfl rfl rfl ⟨rfl, rfl, rfl, rfl, rfl⟩ rfl rfl rfl rfl rfl (by kernel_rfl) Try.func13 factsHold
    (of_decide_eq_true (by kernel_rfl)) (by unfold Func.isWrapper; first | (rw [if_pos (by decide +kernel)]; kernel_rfl) | (rw [if_neg (by decide +kernel)]; exact ⟨rfl, rfl⟩))
    (fun os started H enc _ => lifted os started H enc)
#print axioms proved
end Go.Proofs.Ytdbeclnoaeiaeaa.lawrsh
