


/- The law FnRingTurn: a new key is for what comes; elder ones stay. No condition. -/
import Derived.Test.YtdbeclnoaeiaeaaLaw
import Derived.Test.YtdbeclnoaeiaeaaDrX
import Derived.Test.YtdbeclnoaeiaeaaRgTi
import Derived.Test.YtdbeclnoaeiaeaaRgL
import Derived.Test.YtdbeclnoaeiaeaaLdR
import Derived.Test.YtdbeclnoaeiaeaaEf
import Derived.Test.YtdbeclnoaeiaeaaHeard
import Derived.Test.YtdbeclnoaeiaeaaEnter
import Derived.Test.YtdbeclnoaeiaeaaMake
namespace Go.Proofs.Ytdbeclnoaeiaeaa.lawrt
open Go.RowKit Go.ChangeShapes Go.WideShapes Go.ChangeAt

set_option maxRecDepth 8000 in
set_option maxHeartbeats 8000000 in
theorem walk (l : List Int) {v : Value} {w : World} (h : RSl RByte 1 w 0 w.heap.size l [v]) (w' : World) (hw : w' = w := by rfl) :
    Calls Try.prog 11 #[v] w' fun e w' => e = .returned (.bool true) ∧ Below w.heap.size w w' := by
  subst hw
  obtain ⟨A, c, rfl⟩ := h.form
  have hlen : l.length ≤ maxLen := by obtain ⟨_, h1, h2⟩ := h.len_; omega
  unfold maxLen at hlen
  by_cases hbig : 1048576 < l.length
  · go_enter Try.func11, Try.ntmps11
    go_wp2_with fail
    go_ret
    exact ⟨rfl, Below.refl _ _⟩
  go_enter Try.func11, Try.ntmps11
  go_wp2_with fail
  refine (drawRingTurn_any l A _ c _ h).mono ?_
  rintro e w1 ⟨va, vb, rr, key, rfl, o1, f1, hkey, hbw⟩
  obtain ⟨r1, ok1, hr1⟩ := RTurn_total rr key
  have hg1 := turn_good hr1 f1.good (in64_small (by omega))
  have hs1 := turn_sz hr1 (f1.sz (by omega))
  have hl1 := (f1.sz (by omega)).1
  have hl2 := (f1.sz (by omega)).2
  have HG := Lib.hid hg1; clear hg1
  have HS1 := Lib.hid hs1; clear hs1
  have HR := Lib.hid hr1; clear hr1
  have hkl := f1.keys
  have hgl := f1.grs
  have HF := Lib.hid f1; clear f1
  obtain ⟨A1, c1, rfl⟩ := o1.keys.form
  obtain ⟨B1, d1, rfl⟩ := o1.grs.form
  obtain ⟨rs1, rs2⟩ := o1.reads HF.out.good
  have hhi := Nat.le_refl w1.heap.size
  go_wp2_with fail
  have hbw2 : Below w1.heap.size w1 (w1.alloc (.cells #[.slice A1 rr.keys.length c1, .slice B1 rr.grs.length d1] 30)) := below_alloc _ _
  have k0 : Blk (w1.alloc (.cells #[.slice A1 rr.keys.length c1, .slice B1 rr.grs.length d1] 30)) (w1.heap.size) 30 #[.slice A1 rr.keys.length c1, .slice B1 rr.grs.length d1] := by
    have hk := Blk.new w1 30 #[.slice A1 rr.keys.length c1, .slice B1 rr.grs.length d1]
    exact hk
  have hsw2 : w1.heap.size + 1 ≤ (w1.alloc (.cells #[.slice A1 rr.keys.length c1, .slice B1 rr.grs.length d1] 30)).heap.size := by simp only [World.size_alloc]; omega
  generalize (w1.alloc (.cells #[.slice A1 rr.keys.length c1, .slice B1 rr.grs.length d1] 30)) = w2 at *
  have ck0 := k0.cell
  have fk0 := k0.frozen
  replace rs1 := sl_keep RInt.loc rs1 hbw2 hhi
  replace rs2 := sl_keep RGr.loc rs2 hbw2 hhi
  replace hhi := Nat.le_trans hhi hbw2.size
  replace hbw := below_below hbw hbw2
  refine (specRingTurn_any rr key _ _ _ _ _ hhi rs1 rs2 hl1 hl2 r1 ok1 HR.out).mono ?_
  rintro e w3 ⟨va3, vb3, rfl, o3, b3⟩
  obtain ⟨A3, c3, rfl⟩ := o3.keys.form
  obtain ⟨B3, d3, rfl⟩ := o3.grs.form
  replace rs1 := sl_keep RInt.loc rs1 b3 hhi
  replace rs2 := sl_keep RGr.loc rs2 b3 hhi
  replace hhi := Nat.le_trans hhi b3.size
  replace hbw := below_below hbw b3
  replace k0 := blk_keep k0 b3
  replace ck0 := k0.cell
  replace fk0 := k0.frozen
  have ax := below_alloc w3 (.cells #[.slice A3 r1.keys.length c3, .slice B3 r1.grs.length d3] 30)
  have ka0 := (blk_keep k0 ax).cell
  go_wp2_with fail
  clear ax ka0
  have hbw4 : Below w3.heap.size w3 (w3.alloc (.cells #[.slice A3 r1.keys.length c3, .slice B3 r1.grs.length d3] 30)) := below_alloc _ _
  have m0 : Blk (w3.alloc (.cells #[.slice A3 r1.keys.length c3, .slice B3 r1.grs.length d3] 30)) (w3.heap.size) 30 #[.slice A3 r1.keys.length c3, .slice B3 r1.grs.length d3] := by
    have hk := Blk.new w3 30 #[.slice A3 r1.keys.length c3, .slice B3 r1.grs.length d3]
    exact hk
  have hsw4 : w3.heap.size + 1 ≤ (w3.alloc (.cells #[.slice A3 r1.keys.length c3, .slice B3 r1.grs.length d3] 30)).heap.size := by simp only [World.size_alloc]; omega
  generalize (w3.alloc (.cells #[.slice A3 r1.keys.length c3, .slice B3 r1.grs.length d3] 30)) = w4 at *
  have cm0 := m0.cell
  have fm0 := m0.frozen
  replace rs1 := sl_keep RInt.loc rs1 hbw4 hhi
  replace rs2 := sl_keep RGr.loc rs2 hbw4 hhi
  replace hhi := Nat.le_trans hhi hbw4.size
  replace hbw := below_below hbw hbw4
  replace k0 := blk_keep k0 hbw4
  replace ck0 := k0.cell
  replace fk0 := k0.frozen
  replace o3 := o3.below hbw4
  refine (implRingTurn_any rr key _ _ _ _ _ hhi rs1 rs2 hl1 hl2 r1 ok1 HR.out).mono ?_
  rintro e w5 ⟨va5, vb5, rfl, o5, b5⟩
  obtain ⟨A5, c5, rfl⟩ := o5.keys.form
  obtain ⟨B5, d5, rfl⟩ := o5.grs.form
  replace rs1 := sl_keep RInt.loc rs1 b5 hhi
  replace rs2 := sl_keep RGr.loc rs2 b5 hhi
  replace hhi := Nat.le_trans hhi b5.size
  replace hbw := below_below hbw b5
  replace k0 := blk_keep k0 b5
  replace ck0 := k0.cell
  replace fk0 := k0.frozen
  replace m0 := blk_keep m0 b5
  replace cm0 := m0.cell
  replace fm0 := m0.frozen
  replace o3 := o3.below b5
  cases ok1 with
  | false =>
    have ax := below_alloc w5 (.cells #[.slice A5 r1.keys.length c5, .slice B5 r1.grs.length d5] 30)
    have ka0 := (blk_keep k0 ax).cell
    have ma0 := (blk_keep m0 ax).cell
    go_wp2_with fail
    clear ax ka0 ma0
    have hbw6 : Below w5.heap.size w5 (w5.alloc (.cells #[.slice A5 r1.keys.length c5, .slice B5 r1.grs.length d5] 30)) := below_alloc _ _
    have p0 : Blk (w5.alloc (.cells #[.slice A5 r1.keys.length c5, .slice B5 r1.grs.length d5] 30)) (w5.heap.size) 30 #[.slice A5 r1.keys.length c5, .slice B5 r1.grs.length d5] := by
      have hk := Blk.new w5 30 #[.slice A5 r1.keys.length c5, .slice B5 r1.grs.length d5]
      exact hk
    have hsw6 : w5.heap.size + 1 ≤ (w5.alloc (.cells #[.slice A5 r1.keys.length c5, .slice B5 r1.grs.length d5] 30)).heap.size := by simp only [World.size_alloc]; omega
    generalize (w5.alloc (.cells #[.slice A5 r1.keys.length c5, .slice B5 r1.grs.length d5] 30)) = w6 at *
    have cp0 := p0.cell
    have fp0 := p0.frozen
    replace rs1 := sl_keep RInt.loc rs1 hbw6 hhi
    replace rs2 := sl_keep RGr.loc rs2 hbw6 hhi
    replace hhi := Nat.le_trans hhi hbw6.size
    replace hbw := below_below hbw hbw6
    replace k0 := blk_keep k0 hbw6
    replace ck0 := k0.cell
    replace fk0 := k0.frozen
    replace m0 := blk_keep m0 hbw6
    replace cm0 := m0.cell
    replace fm0 := m0.frozen
    replace o3 := o3.below hbw6
    replace o5 := o5.below hbw6
    have s3 := o3.reads HG.out
    have s5 := o5.reads HG.out
    refine (ldRing_any r1 r1 _ _ _ _ _ _ _ _ _ (Nat.le_refl _) (Nat.le_refl _) s5.1 s5.2 s3.1 s3.2 true (by simp)).mono ?_
    rintro e w7 ⟨rfl, bw7⟩
    replace rs1 := sl_keep RInt.loc rs1 bw7 hhi
    replace rs2 := sl_keep RGr.loc rs2 bw7 hhi
    replace hhi := Nat.le_trans hhi bw7.size
    replace hbw := below_below hbw bw7
    replace k0 := blk_keep k0 bw7
    replace ck0 := k0.cell
    replace fk0 := k0.frozen
    replace m0 := blk_keep m0 bw7
    replace cm0 := m0.cell
    replace fm0 := m0.frozen
    replace p0 := blk_keep p0 bw7
    replace cp0 := p0.cell
    replace fp0 := p0.frozen
    replace o3 := o3.below bw7
    replace o5 := o5.below bw7
    replace s3 := o3.reads HG.out
    replace s5 := o5.reads HG.out
    go_wp2_with fail
    refine (ldRing_any r1 r1 _ _ _ _ _ _ _ _ _ (Nat.le_refl _) (Nat.le_refl _) s5.1 s5.2 s3.1 s3.2 true (by simp)).mono ?_
    rintro e w8 ⟨rfl, bw8⟩
    replace rs1 := sl_keep RInt.loc rs1 bw8 hhi
    replace rs2 := sl_keep RGr.loc rs2 bw8 hhi
    replace hhi := Nat.le_trans hhi bw8.size
    replace hbw := below_below hbw bw8
    replace k0 := blk_keep k0 bw8
    replace ck0 := k0.cell
    replace fk0 := k0.frozen
    replace m0 := blk_keep m0 bw8
    replace cm0 := m0.cell
    replace fm0 := m0.frozen
    replace p0 := blk_keep p0 bw8
    replace cp0 := p0.cell
    replace fp0 := p0.frozen
    replace o3 := o3.below bw8
    replace o5 := o5.below bw8
    replace s3 := o3.reads HG.out
    replace s5 := o5.reads HG.out
    go_wp2_with fail
    go_ret
    exact ⟨rfl, hbw⟩
  | true =>
    have ax := below_alloc w5 (.cells #[.slice A5 r1.keys.length c5, .slice B5 r1.grs.length d5] 30)
    have ka0 := (blk_keep k0 ax).cell
    have ma0 := (blk_keep m0 ax).cell
    go_wp2_with fail
    clear ax ka0 ma0
    have hbw6 : Below w5.heap.size w5 (w5.alloc (.cells #[.slice A5 r1.keys.length c5, .slice B5 r1.grs.length d5] 30)) := below_alloc _ _
    have p0 : Blk (w5.alloc (.cells #[.slice A5 r1.keys.length c5, .slice B5 r1.grs.length d5] 30)) (w5.heap.size) 30 #[.slice A5 r1.keys.length c5, .slice B5 r1.grs.length d5] := by
      have hk := Blk.new w5 30 #[.slice A5 r1.keys.length c5, .slice B5 r1.grs.length d5]
      exact hk
    have hsw6 : w5.heap.size + 1 ≤ (w5.alloc (.cells #[.slice A5 r1.keys.length c5, .slice B5 r1.grs.length d5] 30)).heap.size := by simp only [World.size_alloc]; omega
    generalize (w5.alloc (.cells #[.slice A5 r1.keys.length c5, .slice B5 r1.grs.length d5] 30)) = w6 at *
    have cp0 := p0.cell
    have fp0 := p0.frozen
    replace rs1 := sl_keep RInt.loc rs1 hbw6 hhi
    replace rs2 := sl_keep RGr.loc rs2 hbw6 hhi
    replace hhi := Nat.le_trans hhi hbw6.size
    replace hbw := below_below hbw hbw6
    replace k0 := blk_keep k0 hbw6
    replace ck0 := k0.cell
    replace fk0 := k0.frozen
    replace m0 := blk_keep m0 hbw6
    replace cm0 := m0.cell
    replace fm0 := m0.frozen
    replace o3 := o3.below hbw6
    replace o5 := o5.below hbw6
    have s3 := o3.reads HG.out
    have s5 := o5.reads HG.out
    refine (ldRing_any r1 r1 _ _ _ _ _ _ _ _ _ (Nat.le_refl _) (Nat.le_refl _) s5.1 s5.2 s3.1 s3.2 true (by simp)).mono ?_
    rintro e w7 ⟨rfl, bw7⟩
    replace rs1 := sl_keep RInt.loc rs1 bw7 hhi
    replace rs2 := sl_keep RGr.loc rs2 bw7 hhi
    replace hhi := Nat.le_trans hhi bw7.size
    replace hbw := below_below hbw bw7
    replace k0 := blk_keep k0 bw7
    replace ck0 := k0.cell
    replace fk0 := k0.frozen
    replace m0 := blk_keep m0 bw7
    replace cm0 := m0.cell
    replace fm0 := m0.frozen
    replace p0 := blk_keep p0 bw7
    replace cp0 := p0.cell
    replace fp0 := p0.frozen
    replace o3 := o3.below bw7
    replace o5 := o5.below bw7
    replace s3 := o3.reads HG.out
    replace s5 := o5.reads HG.out
    have hR1 := Lib.hid (turn_ring HR.out).2.2.2
    have hRE := Lib.hid (turn_ring HR.out).2.2.1
    have h9 := hR1.out.2.2.2
    go_wp2_with fail
    go_loopw [10] (fun mm wr => ∃ m : Int, mm = .int .i64 m ∧ 1 ≤ m ∧ m ≤ 5 ∧ Below w7.heap.size w7 wr) (fun mm _ => (5 - intOf mm).toNat)
    case atStart => exact ⟨1, rfl, by omega, by omega, Below.refl _ _⟩
    case round =>
      obtain ⟨m, rfl, hm1, hm5, bw⟩ := hrel
      have ss5 := s5
      replace rs1 := sl_keep RInt.loc rs1 bw hhi
      replace rs2 := sl_keep RGr.loc rs2 bw hhi
      replace hhi := Nat.le_trans hhi bw.size
      replace hbw := below_below hbw bw
      replace k0 := blk_keep k0 bw
      replace ck0 := k0.cell
      replace fk0 := k0.frozen
      replace m0 := blk_keep m0 bw
      replace cm0 := m0.cell
      replace fm0 := m0.frozen
      replace p0 := blk_keep p0 bw
      replace cp0 := p0.cell
      replace fp0 := p0.frozen
      replace o3 := o3.below bw
      replace o5 := o5.below bw
      replace s3 := o3.reads HG.out
      replace s5 := o5.reads HG.out
      by_cases hlt : m ≤ 4
      · go_wp2_with fail
        go_loopw [11] (fun ee wz => ∃ e : Int, ee = .int .i64 e ∧ 1 ≤ e ∧ e ≤ (rr.keys.length : Int) + 1 ∧ Below wr.heap.size wr wz) (fun ee _ => ((rr.keys.length : Int) + 1 - intOf ee).toNat)
        case atStart => exact ⟨1, rfl, by omega, by omega, Below.refl _ _⟩
        case round =>
          obtain ⟨ep, rfl, he1, he2, bz⟩ := hrel
          replace rs1 := sl_keep RInt.loc rs1 bz hhi
          replace rs2 := sl_keep RGr.loc rs2 bz hhi
          replace hhi := Nat.le_trans hhi bz.size
          replace hbw := below_below hbw bz
          replace k0 := blk_keep k0 bz
          replace ck0 := k0.cell
          replace fk0 := k0.frozen
          replace m0 := blk_keep m0 bz
          replace cm0 := m0.cell
          replace fm0 := m0.frozen
          replace p0 := blk_keep p0 bz
          replace cp0 := p0.cell
          replace fp0 := p0.frozen
          replace o3 := o3.below bz
          replace o5 := o5.below bz
          replace s3 := o3.reads HG.out
          replace s5 := o5.reads HG.out
          by_cases hel : ep ≤ rr.keys.length
          · obtain ⟨k, has, hk⟩ := RKey_total rr m ep
            have hk1 := turn_key HR.out hel hk
            have HK := Lib.hid hk; clear hk
            have HK1 := Lib.hid hk1; clear hk1
            go_wp2_with fail
            refine (implRingKey_any rr m ep _ _ _ _ _ hhi rs1 rs2 k has HK.out).mono ?_
            rintro e wa ⟨rfl, ba⟩
            replace rs1 := sl_keep RInt.loc rs1 ba hhi
            replace rs2 := sl_keep RGr.loc rs2 ba hhi
            replace hhi := Nat.le_trans hhi ba.size
            replace hbw := below_below hbw ba
            replace k0 := blk_keep k0 ba
            replace ck0 := k0.cell
            replace fk0 := k0.frozen
            replace m0 := blk_keep m0 ba
            replace cm0 := m0.cell
            replace fm0 := m0.frozen
            replace p0 := blk_keep p0 ba
            replace cp0 := p0.cell
            replace fp0 := p0.frozen
            replace o3 := o3.below ba
            replace o5 := o5.below ba
            replace s3 := o3.reads HG.out
            replace s5 := o5.reads HG.out
            go_wp2_with fail
            refine (implRingKey_any r1 m ep _ _ _ _ _ (Nat.le_refl _) s5.1 s5.2 k has HK1.out).mono ?_
            rintro e wb ⟨rfl, bb⟩
            replace rs1 := sl_keep RInt.loc rs1 bb hhi
            replace rs2 := sl_keep RGr.loc rs2 bb hhi
            replace hhi := Nat.le_trans hhi bb.size
            replace hbw := below_below hbw bb
            replace k0 := blk_keep k0 bb
            replace ck0 := k0.cell
            replace fk0 := k0.frozen
            replace m0 := blk_keep m0 bb
            replace cm0 := m0.cell
            replace fm0 := m0.frozen
            replace p0 := blk_keep p0 bb
            replace cp0 := p0.cell
            replace fp0 := p0.frozen
            replace o3 := o3.below bb
            replace o5 := o5.below bb
            replace s3 := o3.reads HG.out
            replace s5 := o5.reads HG.out
            go_wp2_with fail
            go_roundw
            case rel => exact ⟨ep + 1, by go_num, by omega, by omega, below_below (below_below bz ba) bb⟩
            case measure => simp [intOf]; omega
          · go_wp2_with fail
            go_loopw [16, 17] (fun oo ii wy => ∃ (j : Nat) (b : Bool), j ≤ rr.grs.length ∧ oo = .bool b ∧ ii = .int .i64 j ∧ opTo rr m j b ∧ Below wr.heap.size wr wy) (fun oo ii _ => rr.grs.length - (intOf ii).toNat)
            case atStart => exact ⟨0, false, Nat.zero_le _, rfl, rfl, by simp [opTo], Below.refl _ _⟩
            case round =>
              obtain ⟨j, b, hj, rfl, rfl, hop, by_⟩ := hrel
              have HO := Lib.hid hop; clear hop
              replace rs1 := sl_keep RInt.loc rs1 by_ hhi
              replace rs2 := sl_keep RGr.loc rs2 by_ hhi
              replace hhi := Nat.le_trans hhi by_.size
              replace hbw := below_below hbw by_
              replace k0 := blk_keep k0 by_
              replace ck0 := k0.cell
              replace fk0 := k0.frozen
              replace m0 := blk_keep m0 by_
              replace cm0 := m0.cell
              replace fm0 := m0.frozen
              replace p0 := blk_keep p0 by_
              replace cp0 := p0.cell
              replace fp0 := p0.frozen
              replace o3 := o3.below by_
              replace o5 := o5.below by_
              replace s3 := o3.reads HG.out
              replace s5 := o5.reads HG.out
              by_cases hjl : j < rr.grs.length
              · obtain ⟨x, hxk⟩ := some_of_lt hjl
                obtain ⟨b1, off, rfl, _, _, h64, hcell, hcell1, hcell2⟩ := rs2.grs_at hxk
                have HX := Lib.hid hxk; clear hxk
                cases b with
                | true =>
                  have HN := Lib.hid (opTo_step HO.out HX.out (b' := true) (by simp))
                  go_wp2_with fail
                  go_roundw
                  case rel => exact ⟨j + 1, true, by omega, rfl, by go_num, HN.out, by_⟩
                  case measure => simp [intOf]; omega
                | false =>
                  by_cases q1 : x.m = m
                  · have t1 : (x.m == m) = true := beq_iff_eq.2 q1
                    by_cases q2 : x.t = 0
                    · have HN := Lib.hid (opTo_step HO.out HX.out (b' := true) (by simp [q1, q2]))
                      have t2 : (x.t == 0) = true := beq_iff_eq.2 q2
                      clear q1 q2
                      go_wp2_with fail
                      go_roundw
                      case rel => exact ⟨j + 1, true, by omega, rfl, by go_num, HN.out, by_⟩
                      case measure => simp [intOf]; omega
                    · have HN := Lib.hid (opTo_step HO.out HX.out (b' := false) (by simp [q2]))
                      have t2 : (x.t == 0) = false := beq_eq_false_iff_ne.2 q2
                      clear q1 q2
                      go_wp2_with fail
                      go_roundw
                      case rel => exact ⟨j + 1, false, by omega, rfl, by go_num, HN.out, by_⟩
                      case measure => simp [intOf]; omega
                  · have HN := Lib.hid (opTo_step HO.out HX.out (b' := false) (by simp [q1]))
                    have t1 : (x.m == m) = false := beq_eq_false_iff_ne.2 q1
                    clear q1
                    go_wp2_with fail
                    go_roundw
                    case rel => exact ⟨j + 1, false, by omega, rfl, by go_num, HN.out, by_⟩
                    case measure => simp [intOf]; omega
              · obtain rfl : j = rr.grs.length := by omega
                have hb : b = true ↔ openP rr m := by
                  have := HO.out
                  unfold opTo at this
                  rw [List.take_length] at this
                  exact this
                clear HO
                obtain ⟨k, has, hk⟩ := RKey_total r1 m (rr.keys.length + 1)
                have hbo : has = b := by
                  rw [Bool.eq_iff_iff, hb]
                  exact turn_open HR.out hk
                subst hbo
                clear hb
                have HK := Lib.hid hk; clear hk
                go_wp2_with fail
                refine (implRingKey_any r1 m (rr.keys.length + 1) _ _ _ _ _ (Nat.le_refl _) s5.1 s5.2 k has HK.out).mono ?_
                rintro e wa ⟨rfl, ba⟩
                replace rs1 := sl_keep RInt.loc rs1 ba hhi
                replace rs2 := sl_keep RGr.loc rs2 ba hhi
                replace hhi := Nat.le_trans hhi ba.size
                replace hbw := below_below hbw ba
                replace k0 := blk_keep k0 ba
                replace ck0 := k0.cell
                replace fk0 := k0.frozen
                replace m0 := blk_keep m0 ba
                replace cm0 := m0.cell
                replace fm0 := m0.frozen
                replace p0 := blk_keep p0 ba
                replace cp0 := p0.cell
                replace fp0 := p0.frozen
                replace o3 := o3.below ba
                replace o5 := o5.below ba
                replace s3 := o3.reads HG.out
                replace s5 := o5.reads HG.out
                clear hj hjl
                cases has
                all_goals
                  go_wp2_with fail
                  go_roundw
                  case rel => exact ⟨m + 1, by go_num, by omega, by omega, below_below (below_below (below_below bw bz) by_) ba⟩
                  case measure => simp [intOf]; omega
      · have ca0 : wr.cell? ⟨w1.heap.size, 0, none⟩ = some (.slice A1 rr.keys.length c1) := k0.cell 0
        have cb0 : wr.cell? ⟨w5.heap.size, 0, none⟩ = some (.slice A5 r1.keys.length c5) := p0.cell 0
        have cb1 : wr.cell? ⟨w5.heap.size, 1, none⟩ = some (.slice B5 r1.grs.length d5) := p0.cell 1
        have hin64 : In64 key := in64_small (by omega)
        have hge : 1 ≤ rr.keys.length := HF.out.pos
        go_wp2_with fail
        have past0 : ∀ x : PastE wr 8 3 (fun _ => False) [5], _ := paste_cell ca0 (fun h => h)
        have past1 : ∀ x : PastE wr 8 3 (fun _ => False) [5], _ := paste_cell cb0 (fun h => h)
        refine region_efT 8 3 (fun _ => False) [5] 15 [0, 1, 3, 4, 6] [2, 5, 7, 8, 9, 10, 11, 12, 13, 14] (by kernel_rfl) (by kernel_rfl) (by kernel_rfl) ?_
        simp only [pick, List.map, List.getD_cons_zero, List.getD_cons_succ]
        repeat (go_big_quiet_step (fail))
        refine wpQuiet_nil ?_
        clear past0 past1
        apply Exists.intro
        apply ef_any (fun v x => x.done = false → Lit0 wr.heap.size 3 v x.to)
        · rfl
        · exact fun v x y h hl hd => (h (hl.till hd).1).keep (hl.till hd).2
        · intro x _ _ Qx hQ'
          have hQ := Lib.hid hQ'; clear hQ'
          go_wp2_with fail
          exact hQ.out _ _ (below_alloc _ _) fun _ => Lit0.new _ _ x.ok.size
        intro u2
        simp only [Act.put, List.setIfInBounds_toArray, List.set_cons_zero, List.set_cons_succ]
        apply ef_any (fun v x => x.done = false → OwnF FInt 3 x.to wr.heap.size v (rr.keys))
        · rfl
        · exact fun v x y h hl hd => (h (hl.till hd).1).below (hl.till hd).2
        · intro x hF hp Qx hQ'
          have hQ := Lib.hid hQ'; clear hQ'
          have hdn := hp (by decide)
          have hL := hF.1 (by kernel_rfl) hdn
          exact app_copy (x.till hdn) rfl (.tmp 135) (.tmp 137) 22 rfl elem_int (Nat.le_refl _) rfl rfl hL (src_flat (F := FInt) rs1 hhi) (by omega) fun v' x' hle ho => wpList_nil (hQ.out _ _ hle fun _ => ho)
        intro u5
        simp only [Act.put, List.setIfInBounds_toArray, List.set_cons_zero, List.set_cons_succ]
        apply ef_any (fun v x => x.done = false → ∃ b, v = .slice (some ⟨b, 0, none⟩) 1 1 ∧ Blk x.to b 3 #[.int .i64 key])
        · rfl
        · exact fun v x y h hl hd => by
            obtain ⟨b, e, hk⟩ := h (hl.till hd).1
            exact ⟨b, e, blk_keep hk (hl.till hd).2⟩
        · intro x _ _ Qx hQ'
          have hQ := Lib.hid hQ'; clear hQ'
          go_wp2_with fail
          exact hQ.out _ _ (below_alloc _ _) fun _ => ⟨_, rfl, Blk.new _ _ _⟩
        intro u7
        simp only [Act.put, List.setIfInBounds_toArray, List.set_cons_zero, List.set_cons_succ]
        apply ef_eff (fun v x => x.done = true ∧ OwnF FInt 3 x.to wr.heap.size v (rr.keys ++ [key]))
        · rfl
        · rfl
        · intro j hj
          obtain rfl := List.mem_singleton.1 hj
          exact behind_of 9 _ _ (by kernel_rfl)
        · exact fun v x y ⟨hd, ho⟩ hl => ⟨(hl.from_ hd).1, ho.below (hl.from_ hd).2⟩
        · intro x hF hdn Qx hQ'
          have hQ := Lib.hid hQ'; clear hQ'
          obtain ⟨b, rfl, hkb⟩ := hF.1 (by kernel_rfl) hdn
          have hO := hF.2.1 (by kernel_rfl) hdn
          refine app_flatB (F := FInt) rfl (.tmp 138) (.tmp 140) 22 rfl elem_int key rfl hO rfl hkb rfl (by omega) x.ok.size ?_
          intro v8 w8 o8 ch8 at8
          refine wpList_nil ?_
          exact hQ.out _ _ (ch8.mono fun b _ hb => .inr (own_ty hO hb)) ⟨rfl, o8⟩
        intro u8
        simp only [Act.put, List.setIfInBounds_toArray, List.set_cons_zero, List.set_cons_succ]
        have hkeq : decide (r1.keys = rr.keys ++ [key]) = true := by rw [hRE.out]; simp
        have HKQ := Lib.hid hkeq; clear hkeq
        have hgd : ∀ y ∈ rr.keys ++ [key], In64 y := fun y hy => by
          rcases List.mem_append.1 hy with hy | hy
          · exact HF.out.good.keys y hy
          · rw [List.mem_singleton.1 hy]; exact hin64
        have HGD := Lib.hid hgd; clear hgd
        apply ef_fix (.bool true)
        · intro x hF hp Qx hQ'
          have hQ := Lib.hid hQ'; clear hQ'
          obtain ⟨hdn, hO⟩ := hF.1 (by kernel_rfl)
          clear hF hp
          have hx := x.all fun _ h => h
          go_wp2_with fail
          refine (ldInts_any r1.keys (rr.keys ++ [key]) _ _ x.to _ _ _ _ (sl_keep RInt.loc s5.1 hx (Nat.le_refl _)) (hO.sl HGD.out (Nat.le_refl _))).mono ?_
          rintro e wy ⟨he, n, rfl⟩
          rw [HKQ.out] at he
          subst he
          go_wp2_with fail
          exact hQ.out _ (below_drewN (Below.refl _ _) n)
        simp only [Act.put, List.setIfInBounds_toArray, List.set_cons_zero, List.set_cons_succ]
        apply ef_fix (.bool true)
        · intro x _ _ Qx hQ'
          have hQ := Lib.hid hQ'; clear hQ'
          go_wp2_with fail
          exact hQ.out _ (Below.refl _ _)
        simp only [Act.put, List.setIfInBounds_toArray, List.set_cons_zero, List.set_cons_succ]
        apply ef_fix (.agg #[.slice A5 r1.keys.length c5, .slice B5 r1.grs.length d5])
        · intro x _ _ Qx hQ'
          have hQ := Lib.hid hQ'; clear hQ'
          have ca := paste_cell cb0 (fun h => h) x
          have cb := paste_cell cb1 (fun h => h) x
          go_wp2_with fail
          exact hQ.out _ (Below.refl _ _)
        simp only [Act.put, List.setIfInBounds_toArray, List.set_cons_zero, List.set_cons_succ]
        apply ef_fix (.bool true)
        · intro x _ _ Qx hQ'
          have hQ := Lib.hid hQ'; clear hQ'
          have hx := x.all fun _ h => h
          go_wp2_with fail
          refine (implRingOk_any r1 _ _ x.to _ _ hx.size (sl_keep RInt.loc s5.1 hx (Nat.le_refl _)) (sl_keep RGr.loc s5.2 hx (Nat.le_refl _)) true (by simp only [true_iff]; exact hR1.out)).mono ?_
          rintro e wy ⟨rfl, by5⟩
          go_wp2_with fail
          exact hQ.out _ by5
        simp only [Act.put, List.setIfInBounds_toArray, List.set_cons_zero, List.set_cons_succ]
        apply ef_fix (.bool true)
        · intro x _ _ Qx hQ'
          have hQ := Lib.hid hQ'; clear hQ'
          go_wp2_with fail
          exact hQ.out _ (Below.refl _ _)
        simp only [Act.put, List.setIfInBounds_toArray, List.set_cons_zero, List.set_cons_succ]
        apply ef_fix (.bool true)
        · intro x _ _ Qx hQ'
          have hQ := Lib.hid hQ'; clear hQ'
          go_wp2_with fail
          exact hQ.out _ (Below.refl _ _)
        simp only [Act.put, List.setIfInBounds_toArray, List.set_cons_zero, List.set_cons_succ]
        refine ef_end fun x _ => ?_
        have hx := x.all fun _ h => h
        simp only [List.drop]
        go_wp2_with fail
        go_ret
        exact ⟨rfl, below_below hbw hx⟩

set_option maxRecDepth 100000 in
theorem lifted (os : Os) (started : os.Started) (H : Type) (enc : TypeId × Value → H) :
    ReturnsInHanded {} Try.checked os 11 .any (Rows.fnRingTurnSpec.pre6 enc Try.prog Try.f11 Rows.fnRingTurnRow.domain false) (Rows.fnRingTurnSpec.post enc Try.prog Try.f11 false true false false) := by
  refine law_lifted own started (by kernel_rfl) Try.func11 laidOut (by kernel_rfl) rfl Try.underlying4 rfl (fun ds hl => ?_)
    (ChangeSpec.witness6 (enc := enc) (C := Try.checked) false ⟨#[], #[.slice none 0 0], []⟩ 8 (by kernel_rfl) (by kernel_rfl) (by kernel_rfl) (by kernel_rfl)) ?_
  · match ds, hl with
    | [_], _ => rfl
  intro W base args ds p hval0 hA hlt hsz hsh
  have hval : ∀ (j : Nat) t v, Try.f11.params[j]? = some t → args[j]? = some v → Value.okWide Try.prog W .any base t v := hval0
  rw [Try.params11] at hA hval
  obtain ⟨v0, d0, rfl, rfl, h0⟩ := trodAll_one hA
  obtain ⟨a0_0, r0⟩ := open_byte_slice (hval 0 34 v0 rfl rfl) h0 (by first | exact hlt | exact fun x hx => hlt x (by simp [hx]))
  exact walk a0_0 r0 W

set_option maxRecDepth 100000 in
theorem factsHold : joinedFacts Try.pinned.checked.prog 11 Try.f11 Rows.fnRingTurnSpec Rows.fnRingTurnRow = true := by
  unfold joinedFacts
  rw [liftsFinal, mayEnter, makeIs]
  kernel_rfl
set_option maxRecDepth 100000 in
theorem proved : Rows.FnRingTurnSaid :=
  OpenClaim.holds_of_wide 11 Try.f11 rfl rfl rfl rfl rfl rfl rfl ⟨rfl, rfl, rfl, rfl, rfl⟩ rfl rfl rfl rfl rfl (by kernel_rfl) Try.func11 factsHold
    (of_decide_eq_true (by kernel_rfl)) (by unfold Func.isWrapper; first | (rw [if_pos (by decide +kernel)]; kernel_rfl) | (rw [if_neg (by decide +kernel)]; exact ⟨rfl, rfl⟩))
    (fun os started H enc _ => lifted os started H enc)
#print axioms proved
end Go.Proofs.Ytdbeclnoaeiaeaa.lawrt
