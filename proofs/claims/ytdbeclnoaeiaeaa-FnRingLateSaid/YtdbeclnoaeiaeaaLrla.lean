


/- The law FnRingLate: who was let later has no elder key, unless all. No condition. -/
import Derived.Test.YtdbeclnoaeiaeaaLaw
import Derived.Test.YtdbeclnoaeiaeaaDrX
import Derived.Test.YtdbeclnoaeiaeaaRgTi
import Derived.Test.YtdbeclnoaeiaeaaRgLi
import Derived.Test.YtdbeclnoaeiaeaaRgL
import Derived.Test.YtdbeclnoaeiaeaaLdR
import Derived.Test.YtdbeclnoaeiaeaaHeard
import Derived.Test.YtdbeclnoaeiaeaaEnter
import Derived.Test.YtdbeclnoaeiaeaaMake
namespace Go.Proofs.Ytdbeclnoaeiaeaa.lawrla
open Go.RowKit Go.ChangeShapes Go.WideShapes Go.ChangeAt

theorem late {r r' : Rg} {m e k : Int} {has : Bool} (h : RLet r m false r' true) (hk : RKey r' m e k has) (he : 1 ≤ e ∧ e ≤ r.keys.length) : has = true ↔ e = r.keys.length := by
  have h' := h
  obtain ⟨hr, hm, hno, rfl, hr'⟩ := let_ring h
  rw [hk.ok_iff, let_key h']
  unfold letFrom
  simp only [Bool.false_eq_true, if_false]
  constructor
  · rintro ⟨_, _, h1⟩; omega
  · intro h1; exact ⟨hr', ⟨he.1, he.2⟩, by omega⟩
set_option maxHeartbeats 4000000 in
theorem walk (l : List Int) {v : Value} {w : World} (h : RSl RByte 1 w 0 w.heap.size l [v]) (l2 : List Int) {v2 : Value} (h2 : RSl RByte 1 w 0 w.heap.size l2 [v2]) (w' : World) (hw : w' = w := by rfl) :
    Calls Try.prog 16 #[v, v2] w' fun e w' => e = .returned (.bool true) ∧ Below w.heap.size w w' := by
  subst hw
  obtain ⟨A, c, rfl⟩ := h.form
  obtain ⟨A2, c2, rfl⟩ := h2.form
  have hlen : l.length ≤ maxLen := by obtain ⟨_, h1, h2⟩ := h.len_; omega
  have hlen2 : l2.length ≤ maxLen := by obtain ⟨_, h1, h2⟩ := h2.len_; omega
  unfold maxLen at hlen hlen2
  by_cases hbig : 1048576 < l.length
  · go_enter Try.func16, Try.ntmps16
    go_wp2_with fail
    go_ret
    exact ⟨rfl, Below.refl _ _⟩
  by_cases hbig2 : 1048576 < l2.length
  · go_enter Try.func16, Try.ntmps16
    go_wp2_with fail
    go_ret
    exact ⟨rfl, Below.refl _ _⟩
  go_enter Try.func16, Try.ntmps16
  go_wp2_with fail
  refine (drawRingTurn_any l A _ c _ h).mono ?_
  rintro e w1 ⟨va, vb, rr, key, rfl, o1, f1, hkey, hbw⟩
  obtain ⟨r1, ok1, hr1⟩ := RTurn_total rr key
  have hg1 := turn_good hr1 f1.good (in64_small (by omega))
  have hs1 := turn_sz hr1 (f1.sz (by omega))
  have hl1 := (f1.sz (by omega)).1
  have hl2 := (f1.sz (by omega)).2
  have HG := Lib.hid hg1; clear hg1
  have HS1 := Lib.hid hs1; clear hs1
  have HR := Lib.hid hr1; clear hr1
  have hkl := f1.keys
  have HF := Lib.hid f1; clear f1
  obtain ⟨A1, c1, rfl⟩ := o1.keys.form
  obtain ⟨B1, d1, rfl⟩ := o1.grs.form
  obtain ⟨rs1, rs2⟩ := o1.reads HF.out.good
  have hhi := Nat.le_refl w1.heap.size
  go_wp2_with fail
  have hbw2 : Below w1.heap.size w1 (w1.alloc (.cells #[.slice A1 rr.keys.length c1, .slice B1 rr.grs.length d1] 30)) := below_alloc _ _
  have k0 : Blk (w1.alloc (.cells #[.slice A1 rr.keys.length c1, .slice B1 rr.grs.length d1] 30)) (w1.heap.size) 30 #[.slice A1 rr.keys.length c1, .slice B1 rr.grs.length d1] := by
    have hk := Blk.new w1 30 #[.slice A1 rr.keys.length c1, .slice B1 rr.grs.length d1]
    exact hk
  have hsw2 : w1.heap.size + 1 ≤ (w1.alloc (.cells #[.slice A1 rr.keys.length c1, .slice B1 rr.grs.length d1] 30)).heap.size := by simp only [World.size_alloc]; omega
  generalize (w1.alloc (.cells #[.slice A1 rr.keys.length c1, .slice B1 rr.grs.length d1] 30)) = w2 at *
  have ck0 := k0.cell
  have fk0 := k0.frozen
  replace rs1 := sl_keep RInt.loc rs1 hbw2 hhi
  replace rs2 := sl_keep RGr.loc rs2 hbw2 hhi
  replace hhi := Nat.le_trans hhi hbw2.size
  replace hbw := below_below hbw hbw2
  refine (specRingTurn_any rr key _ _ _ _ _ hhi rs1 rs2 hl1 hl2 r1 ok1 HR.out).mono ?_
  rintro e w3 ⟨va3, vb3, rfl, o3, b3⟩
  obtain ⟨A3, c3, rfl⟩ := o3.keys.form
  obtain ⟨B3, d3, rfl⟩ := o3.grs.form
  replace rs1 := sl_keep RInt.loc rs1 b3 hhi
  replace rs2 := sl_keep RGr.loc rs2 b3 hhi
  replace hhi := Nat.le_trans hhi b3.size
  replace hbw := below_below hbw b3
  replace k0 := blk_keep k0 b3
  replace ck0 := k0.cell
  replace fk0 := k0.frozen
  have ax := below_alloc w3 (.cells #[.slice A3 r1.keys.length c3, .slice B3 r1.grs.length d3] 30)
  have ka0 := (blk_keep k0 ax).cell
  go_wp2_with fail
  clear ax ka0
  have hbw4 : Below w3.heap.size w3 (w3.alloc (.cells #[.slice A3 r1.keys.length c3, .slice B3 r1.grs.length d3] 30)) := below_alloc _ _
  have m0 : Blk (w3.alloc (.cells #[.slice A3 r1.keys.length c3, .slice B3 r1.grs.length d3] 30)) (w3.heap.size) 30 #[.slice A3 r1.keys.length c3, .slice B3 r1.grs.length d3] := by
    have hk := Blk.new w3 30 #[.slice A3 r1.keys.length c3, .slice B3 r1.grs.length d3]
    exact hk
  have hsw4 : w3.heap.size + 1 ≤ (w3.alloc (.cells #[.slice A3 r1.keys.length c3, .slice B3 r1.grs.length d3] 30)).heap.size := by simp only [World.size_alloc]; omega
  generalize (w3.alloc (.cells #[.slice A3 r1.keys.length c3, .slice B3 r1.grs.length d3] 30)) = w4 at *
  have cm0 := m0.cell
  have fm0 := m0.frozen
  replace rs1 := sl_keep RInt.loc rs1 hbw4 hhi
  replace rs2 := sl_keep RGr.loc rs2 hbw4 hhi
  replace hhi := Nat.le_trans hhi hbw4.size
  replace hbw := below_below hbw hbw4
  replace k0 := blk_keep k0 hbw4
  replace ck0 := k0.cell
  replace fk0 := k0.frozen
  replace o3 := o3.below hbw4
  refine (implRingTurn_any rr key _ _ _ _ _ hhi rs1 rs2 hl1 hl2 r1 ok1 HR.out).mono ?_
  rintro e w5 ⟨va5, vb5, rfl, o5, b5⟩
  obtain ⟨A5, c5, rfl⟩ := o5.keys.form
  obtain ⟨B5, d5, rfl⟩ := o5.grs.form
  replace rs1 := sl_keep RInt.loc rs1 b5 hhi
  replace rs2 := sl_keep RGr.loc rs2 b5 hhi
  replace hhi := Nat.le_trans hhi b5.size
  replace hbw := below_below hbw b5
  replace k0 := blk_keep k0 b5
  replace ck0 := k0.cell
  replace fk0 := k0.frozen
  replace m0 := blk_keep m0 b5
  replace cm0 := m0.cell
  replace fm0 := m0.frozen
  replace o3 := o3.below b5
  cases ok1 with
  | false =>
    have ax := below_alloc w5 (.cells #[.slice A5 r1.keys.length c5, .slice B5 r1.grs.length d5] 30)
    have ka0 := (blk_keep k0 ax).cell
    have ma0 := (blk_keep m0 ax).cell
    go_wp2_with fail
    clear ax ka0 ma0
    have hbw6 : Below w5.heap.size w5 (w5.alloc (.cells #[.slice A5 r1.keys.length c5, .slice B5 r1.grs.length d5] 30)) := below_alloc _ _
    have p0 : Blk (w5.alloc (.cells #[.slice A5 r1.keys.length c5, .slice B5 r1.grs.length d5] 30)) (w5.heap.size) 30 #[.slice A5 r1.keys.length c5, .slice B5 r1.grs.length d5] := by
      have hk := Blk.new w5 30 #[.slice A5 r1.keys.length c5, .slice B5 r1.grs.length d5]
      exact hk
    have hsw6 : w5.heap.size + 1 ≤ (w5.alloc (.cells #[.slice A5 r1.keys.length c5, .slice B5 r1.grs.length d5] 30)).heap.size := by simp only [World.size_alloc]; omega
    generalize (w5.alloc (.cells #[.slice A5 r1.keys.length c5, .slice B5 r1.grs.length d5] 30)) = w6 at *
    have cp0 := p0.cell
    have fp0 := p0.frozen
    replace rs1 := sl_keep RInt.loc rs1 hbw6 hhi
    replace rs2 := sl_keep RGr.loc rs2 hbw6 hhi
    replace hhi := Nat.le_trans hhi hbw6.size
    replace hbw := below_below hbw hbw6
    replace k0 := blk_keep k0 hbw6
    replace ck0 := k0.cell
    replace fk0 := k0.frozen
    replace m0 := blk_keep m0 hbw6
    replace cm0 := m0.cell
    replace fm0 := m0.frozen
    replace o3 := o3.below hbw6
    replace o5 := o5.below hbw6
    have s3 := o3.reads HG.out
    have s5 := o5.reads HG.out
    refine (ldRing_any r1 r1 _ _ _ _ _ _ _ _ _ (Nat.le_refl _) (Nat.le_refl _) s5.1 s5.2 s3.1 s3.2 true (by simp)).mono ?_
    rintro e w7 ⟨rfl, bw7⟩
    replace rs1 := sl_keep RInt.loc rs1 bw7 hhi
    replace rs2 := sl_keep RGr.loc rs2 bw7 hhi
    replace hhi := Nat.le_trans hhi bw7.size
    replace hbw := below_below hbw bw7
    replace k0 := blk_keep k0 bw7
    replace ck0 := k0.cell
    replace fk0 := k0.frozen
    replace m0 := blk_keep m0 bw7
    replace cm0 := m0.cell
    replace fm0 := m0.frozen
    replace p0 := blk_keep p0 bw7
    replace cp0 := p0.cell
    replace fp0 := p0.frozen
    replace o3 := o3.below bw7
    replace o5 := o5.below bw7
    replace s3 := o3.reads HG.out
    replace s5 := o5.reads HG.out
    go_wp2_with fail
    refine (ldRing_any r1 r1 _ _ _ _ _ _ _ _ _ (Nat.le_refl _) (Nat.le_refl _) s5.1 s5.2 s3.1 s3.2 true (by simp)).mono ?_
    rintro e w8 ⟨rfl, bw8⟩
    replace rs1 := sl_keep RInt.loc rs1 bw8 hhi
    replace rs2 := sl_keep RGr.loc rs2 bw8 hhi
    replace hhi := Nat.le_trans hhi bw8.size
    replace hbw := below_below hbw bw8
    replace k0 := blk_keep k0 bw8
    replace ck0 := k0.cell
    replace fk0 := k0.frozen
    replace m0 := blk_keep m0 bw8
    replace cm0 := m0.cell
    replace fm0 := m0.frozen
    replace p0 := blk_keep p0 bw8
    replace cp0 := p0.cell
    replace fp0 := p0.frozen
    replace o3 := o3.below bw8
    replace o5 := o5.below bw8
    replace s3 := o3.reads HG.out
    replace s5 := o5.reads HG.out
    go_wp2_with fail
    go_ret
    exact ⟨rfl, hbw⟩
  | true =>
    have ax := below_alloc w5 (.cells #[.slice A5 r1.keys.length c5, .slice B5 r1.grs.length d5] 30)
    have ka0 := (blk_keep k0 ax).cell
    have ma0 := (blk_keep m0 ax).cell
    go_wp2_with fail
    clear ax ka0 ma0
    have hbw6 : Below w5.heap.size w5 (w5.alloc (.cells #[.slice A5 r1.keys.length c5, .slice B5 r1.grs.length d5] 30)) := below_alloc _ _
    have p0 : Blk (w5.alloc (.cells #[.slice A5 r1.keys.length c5, .slice B5 r1.grs.length d5] 30)) (w5.heap.size) 30 #[.slice A5 r1.keys.length c5, .slice B5 r1.grs.length d5] := by
      have hk := Blk.new w5 30 #[.slice A5 r1.keys.length c5, .slice B5 r1.grs.length d5]
      exact hk
    have hsw6 : w5.heap.size + 1 ≤ (w5.alloc (.cells #[.slice A5 r1.keys.length c5, .slice B5 r1.grs.length d5] 30)).heap.size := by simp only [World.size_alloc]; omega
    generalize (w5.alloc (.cells #[.slice A5 r1.keys.length c5, .slice B5 r1.grs.length d5] 30)) = w6 at *
    have cp0 := p0.cell
    have fp0 := p0.frozen
    replace rs1 := sl_keep RInt.loc rs1 hbw6 hhi
    replace rs2 := sl_keep RGr.loc rs2 hbw6 hhi
    replace hhi := Nat.le_trans hhi hbw6.size
    replace hbw := below_below hbw hbw6
    replace k0 := blk_keep k0 hbw6
    replace ck0 := k0.cell
    replace fk0 := k0.frozen
    replace m0 := blk_keep m0 hbw6
    replace cm0 := m0.cell
    replace fm0 := m0.frozen
    replace o3 := o3.below hbw6
    replace o5 := o5.below hbw6
    have s3 := o3.reads HG.out
    have s5 := o5.reads HG.out
    refine (ldRing_any r1 r1 _ _ _ _ _ _ _ _ _ (Nat.le_refl _) (Nat.le_refl _) s5.1 s5.2 s3.1 s3.2 true (by simp)).mono ?_
    rintro e w7 ⟨rfl, bw7⟩
    replace rs1 := sl_keep RInt.loc rs1 bw7 hhi
    replace rs2 := sl_keep RGr.loc rs2 bw7 hhi
    replace hhi := Nat.le_trans hhi bw7.size
    replace hbw := below_below hbw bw7
    replace k0 := blk_keep k0 bw7
    replace ck0 := k0.cell
    replace fk0 := k0.frozen
    replace m0 := blk_keep m0 bw7
    replace cm0 := m0.cell
    replace fm0 := m0.frozen
    replace p0 := blk_keep p0 bw7
    replace cp0 := p0.cell
    replace fp0 := p0.frozen
    replace o3 := o3.below bw7
    replace o5 := o5.below bw7
    replace s3 := o3.reads HG.out
    replace s5 := o5.reads HG.out
    have hR1 := Lib.hid (turn_ring HR.out).2.2.2
    have h9 := hR1.out.2.2.2
    have hlen1 : r1.keys.length = rr.keys.length + 1 := by rw [(turn_ring HR.out).2.2.1]; simp
    have HL1 := Lib.hid hlen1; clear hlen1
    go_wp2_with fail
    go_loopw [11] (fun mm wr => ∃ m : Int, mm = .int .i64 m ∧ 1 ≤ m ∧ m ≤ 5 ∧ Below w7.heap.size w7 wr) (fun mm _ => (5 - intOf mm).toNat)
    case atStart => exact ⟨1, rfl, by omega, by omega, Below.refl _ _⟩
    case round =>
      obtain ⟨m, rfl, hm1, hm5, bw⟩ := hrel
      have ss5 := s5
      replace rs1 := sl_keep RInt.loc rs1 bw hhi
      replace rs2 := sl_keep RGr.loc rs2 bw hhi
      replace hhi := Nat.le_trans hhi bw.size
      replace hbw := below_below hbw bw
      replace k0 := blk_keep k0 bw
      replace ck0 := k0.cell
      replace fk0 := k0.frozen
      replace m0 := blk_keep m0 bw
      replace cm0 := m0.cell
      replace fm0 := m0.frozen
      replace p0 := blk_keep p0 bw
      replace cp0 := p0.cell
      replace fp0 := p0.frozen
      replace o3 := o3.below bw
      replace o5 := o5.below bw
      replace s3 := o3.reads HG.out
      replace s5 := o5.reads HG.out
      by_cases hlt : m ≤ 4
      · obtain ⟨r2, ok2, hr2⟩ := RLet_total r1 m false
        have HR2 := Lib.hid hr2; clear hr2
        go_wp2_with fail
        refine (implRingLet_any r1 m false _ _ _ _ _ (Nat.le_refl _) s5.1 s5.2 HS1.out.1 HS1.out.2 r2 ok2 HR2.out).mono ?_
        rintro e w8 ⟨va8, vb8, rfl, o8, b8⟩
        obtain ⟨A8, c8, rfl⟩ := o8.keys.form
        obtain ⟨B8, d8, rfl⟩ := o8.grs.form
        replace rs1 := sl_keep RInt.loc rs1 b8 hhi
        replace rs2 := sl_keep RGr.loc rs2 b8 hhi
        replace hhi := Nat.le_trans hhi b8.size
        replace hbw := below_below hbw b8
        replace k0 := blk_keep k0 b8
        replace ck0 := k0.cell
        replace fk0 := k0.frozen
        replace m0 := blk_keep m0 b8
        replace cm0 := m0.cell
        replace fm0 := m0.frozen
        replace p0 := blk_keep p0 b8
        replace cp0 := p0.cell
        replace fp0 := p0.frozen
        replace o3 := o3.below b8
        replace o5 := o5.below b8
        replace s3 := o3.reads HG.out
        replace s5 := o5.reads HG.out
        have bw8 := below_below bw b8
        cases ok2 with
        | false =>
          have bx := below_alloc w8 (.cells #[.slice A8 r2.keys.length c8, .slice B8 r2.grs.length d8] 30)
          go_wp2_with fail
          go_roundw
          case rel => exact ⟨m + 1, by go_num, by omega, by omega, below_below bw8 bx⟩
          case measure => simp [intOf]; omega
        | true =>
          have HG2 := Lib.hid (let_good HR2.out HG.out (in64_small (by omega)))
          have ax := below_alloc w8 (.cells #[.slice A8 r2.keys.length c8, .slice B8 r2.grs.length d8] 30)
          go_wp2_with fail
          clear ax
          have hbw9 : Below w8.heap.size w8 (w8.alloc (.cells #[.slice A8 r2.keys.length c8, .slice B8 r2.grs.length d8] 30)) := below_alloc _ _
          have q0 : Blk (w8.alloc (.cells #[.slice A8 r2.keys.length c8, .slice B8 r2.grs.length d8] 30)) (w8.heap.size) 30 #[.slice A8 r2.keys.length c8, .slice B8 r2.grs.length d8] := by
            have hk := Blk.new w8 30 #[.slice A8 r2.keys.length c8, .slice B8 r2.grs.length d8]
            exact hk
          have hsw9 : w8.heap.size + 1 ≤ (w8.alloc (.cells #[.slice A8 r2.keys.length c8, .slice B8 r2.grs.length d8] 30)).heap.size := by simp only [World.size_alloc]; omega
          generalize (w8.alloc (.cells #[.slice A8 r2.keys.length c8, .slice B8 r2.grs.length d8] 30)) = w9 at *
          have cq0 := q0.cell
          have fq0 := q0.frozen
          replace rs1 := sl_keep RInt.loc rs1 hbw9 hhi
          replace rs2 := sl_keep RGr.loc rs2 hbw9 hhi
          replace hhi := Nat.le_trans hhi hbw9.size
          replace hbw := below_below hbw hbw9
          replace k0 := blk_keep k0 hbw9
          replace ck0 := k0.cell
          replace fk0 := k0.frozen
          replace m0 := blk_keep m0 hbw9
          replace cm0 := m0.cell
          replace fm0 := m0.frozen
          replace p0 := blk_keep p0 hbw9
          replace cp0 := p0.cell
          replace fp0 := p0.frozen
          replace o3 := o3.below hbw9
          replace o5 := o5.below hbw9
          replace s3 := o3.reads HG.out
          replace s5 := o5.reads HG.out
          replace bw8 := below_below bw8 hbw9
          replace o8 := o8.below hbw9
          go_loopw [14] (fun ee wr2 => ∃ e : Int, ee = .int .i64 e ∧ 1 ≤ e ∧ e ≤ (r1.keys.length : Int) + 1 ∧ Below w9.heap.size w9 wr2) (fun ee _ => ((r1.keys.length : Int) + 1 - intOf ee).toNat)
          case atStart => exact ⟨1, rfl, by omega, by omega, Below.refl _ _⟩
          case round =>
            obtain ⟨ep, rfl, he1, he2, bz⟩ := hrel
            replace rs1 := sl_keep RInt.loc rs1 bz hhi
            replace rs2 := sl_keep RGr.loc rs2 bz hhi
            replace hhi := Nat.le_trans hhi bz.size
            replace hbw := below_below hbw bz
            replace k0 := blk_keep k0 bz
            replace ck0 := k0.cell
            replace fk0 := k0.frozen
            replace m0 := blk_keep m0 bz
            replace cm0 := m0.cell
            replace fm0 := m0.frozen
            replace p0 := blk_keep p0 bz
            replace cp0 := p0.cell
            replace fp0 := p0.frozen
            replace o3 := o3.below bz
            replace o5 := o5.below bz
            replace s3 := o3.reads HG.out
            replace s5 := o5.reads HG.out
            replace q0 := blk_keep q0 bz
            replace cq0 := q0.cell
            replace fq0 := q0.frozen
            replace o8 := o8.below bz
            have s8 := o8.reads HG2.out
            by_cases hel : ep ≤ r1.keys.length
            · obtain ⟨k, has, hk⟩ := RKey_total r2 m ep
              have hl := late HR2.out hk ⟨he1, hel⟩
              have HK := Lib.hid hk; clear hk
              by_cases hE : ep = r1.keys.length
              · have hh := hl.2 hE
                subst hh
                have t1 : (ep == (r1.keys.length : Int)) = true := beq_iff_eq.2 hE
                clear hl hE
                go_wp2_with fail
                refine (implRingKey_any r2 m ep _ _ _ _ _ (Nat.le_refl _) s8.1 s8.2 k true HK.out).mono ?_
                rintro e wa ⟨rfl, ba⟩
                replace rs1 := sl_keep RInt.loc rs1 ba hhi
                replace rs2 := sl_keep RGr.loc rs2 ba hhi
                replace hhi := Nat.le_trans hhi ba.size
                replace hbw := below_below hbw ba
                replace k0 := blk_keep k0 ba
                replace ck0 := k0.cell
                replace fk0 := k0.frozen
                replace m0 := blk_keep m0 ba
                replace cm0 := m0.cell
                replace fm0 := m0.frozen
                replace p0 := blk_keep p0 ba
                replace cp0 := p0.cell
                replace fp0 := p0.frozen
                replace o3 := o3.below ba
                replace o5 := o5.below ba
                replace s3 := o3.reads HG.out
                replace s5 := o5.reads HG.out
                go_wp2_with fail
                go_roundw
                case rel => exact ⟨ep + 1, by go_num, by omega, by omega, below_below bz ba⟩
                case measure => simp [intOf]; omega
              · have hh : has = false := by
                  cases has
                  · rfl
                  · exact absurd (hl.1 rfl) hE
                subst hh
                have t1 : (ep == (r1.keys.length : Int)) = false := beq_eq_false_iff_ne.2 hE
                clear hl hE
                go_wp2_with fail
                refine (implRingKey_any r2 m ep _ _ _ _ _ (Nat.le_refl _) s8.1 s8.2 k false HK.out).mono ?_
                rintro e wa ⟨rfl, ba⟩
                replace rs1 := sl_keep RInt.loc rs1 ba hhi
                replace rs2 := sl_keep RGr.loc rs2 ba hhi
                replace hhi := Nat.le_trans hhi ba.size
                replace hbw := below_below hbw ba
                replace k0 := blk_keep k0 ba
                replace ck0 := k0.cell
                replace fk0 := k0.frozen
                replace m0 := blk_keep m0 ba
                replace cm0 := m0.cell
                replace fm0 := m0.frozen
                replace p0 := blk_keep p0 ba
                replace cp0 := p0.cell
                replace fp0 := p0.frozen
                replace o3 := o3.below ba
                replace o5 := o5.below ba
                replace s3 := o3.reads HG.out
                replace s5 := o5.reads HG.out
                go_wp2_with fail
                go_roundw
                case rel => exact ⟨ep + 1, by go_num, by omega, by omega, below_below bz ba⟩
                case measure => simp [intOf]; omega
            · go_wp2_with fail
              go_roundw
              case rel => exact ⟨m + 1, by go_num, by omega, by omega, below_below bw8 bz⟩
              case measure => simp [intOf]; omega
      · have t1 : ((r1.keys.length : Int) == (rr.keys.length : Int) + 1) = true := beq_iff_eq.2 (by have := HL1.out; omega)
        have t2 : decide (0 ≤ (l2.length : Int)) = true := decide_eq_true (by omega)
        go_wp2_with fail
        go_ret
        exact ⟨rfl, hbw⟩

set_option maxRecDepth 100000 in
theorem lifted (os : Os) (started : os.Started) (H : Type) (enc : TypeId × Value → H) :
    ReturnsInHanded {} Try.checked os 16 .any (Rows.fnRingLateSpec.pre6 enc Try.prog Try.f16 Rows.fnRingLateRow.domain false) (Rows.fnRingLateSpec.post enc Try.prog Try.f16 false true false false) := by
  refine law_lifted own started (by kernel_rfl) Try.func16 laidOut (by kernel_rfl) rfl Try.underlying4 rfl (fun ds hl => ?_)
    (ChangeSpec.witness6 (enc := enc) (C := Try.checked) false ⟨#[], #[.slice none 0 0, .slice none 0 0], []⟩ 8 (by kernel_rfl) (by kernel_rfl) (by kernel_rfl) (by kernel_rfl)) ?_
  · match ds, hl with
    | [_, _], _ => rfl
  intro W base args ds p hval0 hA hlt hsz hsh
  have hval : ∀ (j : Nat) t v, Try.f16.params[j]? = some t → args[j]? = some v → Value.okWide Try.prog W .any base t v := hval0
  rw [Try.params16] at hA hval
  obtain ⟨v0, v1, d0, d1, p0, p1, rfl, rfl, rfl, h0, h1⟩ := trodAll_two hA
  obtain ⟨a0_0, r0⟩ := open_byte_slice (hval 0 34 v0 rfl rfl) h0 (by first | exact hlt | exact fun x hx => hlt x (by simp [hx]))
  obtain ⟨a1_0, r1⟩ := open_byte_slice (hval 1 34 v1 rfl rfl) h1 (by first | exact hlt | exact fun x hx => hlt x (by simp [hx]))
  exact walk a0_0 r0 a1_0 r1 W

set_option maxRecDepth 100000 in
theorem factsHold : joinedFacts Try.pinned.checked.prog 16 Try.f16 Rows.fnRingLateSpec Rows.fnRingLateRow = true := by
  unfold joinedFacts
  rw [liftsFinal, mayEnter, makeIs]
  kernel_rfl
set_option maxRecDepth 100000 in
theorem proved : Rows.FnRingLateSaid :=
  OpenClaim.holds_of_wide 16 Try.f16 rfl rfl rfl rfl rfl rfl rfl ⟨rfl, rfl, rfl, rfl, rfl⟩ rfl rfl rfl rfl rfl (by kernel_rfl) Try.func16 factsHold
    (of_decide_eq_true (by kernel_rfl)) (by unfold Func.isWrapper; first | (rw [if_pos (by decide +kernel)]; kernel_rfl) | (rw [if_neg (by decide +kernel)]; exact ⟨rfl, rfl⟩))
    (fun os started H enc _ => lifted os started H enc)
#print axioms proved
end Go.Proofs.Ytdbeclnoaeiaeaa.lawrla
