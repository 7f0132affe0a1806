


/- The law FnRingFull: keys are turned so often at most, each another one. No condition. -/
import Derived.Test.YtdbeclnoaeiaeaaLaw
import Derived.Test.YtdbeclnoaeiaeaaDrX
import Derived.Test.YtdbeclnoaeiaeaaRgTi
import Derived.Test.YtdbeclnoaeiaeaaLdR
import Derived.Test.YtdbeclnoaeiaeaaHeard
import Derived.Test.YtdbeclnoaeiaeaaEnter
import Derived.Test.YtdbeclnoaeiaeaaMake
namespace Go.Proofs.Ytdbeclnoaeiaeaa.lawrfu
open Go.RowKit Go.ChangeShapes Go.WideShapes Go.ChangeAt

set_option maxHeartbeats 4000000 in
theorem walk (l : List Int) {v : Value} {w : World} (h : RSl RByte 1 w 0 w.heap.size l [v]) (w' : World) (hw : w' = w := by rfl) :
    Calls Try.prog 10 #[v] w' fun e w' => e = .returned (.bool true) ∧ Below w.heap.size w w' := by
  subst hw
  obtain ⟨A, c, rfl⟩ := h.form
  have hlen : l.length ≤ maxLen := by obtain ⟨_, h1, h2⟩ := h.len_; omega
  unfold maxLen at hlen
  by_cases hbig : 1048576 < l.length
  · go_enter Try.func10, Try.ntmps10
    go_wp2_with fail
    go_ret
    exact ⟨rfl, Below.refl _ _⟩
  go_enter Try.func10, Try.ntmps10
  go_wp2_with fail
  refine (drawRingTurn_any l A _ c _ h).mono ?_
  rintro e w1 ⟨va, vb, rr, key, rfl, o1, f1, hkey, hbw⟩
  obtain ⟨r1, ok1, hr1⟩ := RTurn_total rr key
  have hg1 := turn_good hr1 f1.good (in64_small (by omega))
  have hl1 := (f1.sz (by omega)).1
  have hl2 := (f1.sz (by omega)).2
  have HG := Lib.hid hg1; clear hg1
  have HR := Lib.hid hr1
  have HF := Lib.hid f1; clear f1
  obtain ⟨A1, c1, rfl⟩ := o1.keys.form
  obtain ⟨B1, d1, rfl⟩ := o1.grs.form
  obtain ⟨rs1, rs2⟩ := o1.reads HF.out.good
  have hhi := Nat.le_refl w1.heap.size
  go_wp2_with fail
  have hbw2 : Below w1.heap.size w1 (w1.alloc (.cells #[.slice A1 rr.keys.length c1, .slice B1 rr.grs.length d1] 30)) := below_alloc _ _
  have k0 : Blk (w1.alloc (.cells #[.slice A1 rr.keys.length c1, .slice B1 rr.grs.length d1] 30)) (w1.heap.size) 30 #[.slice A1 rr.keys.length c1, .slice B1 rr.grs.length d1] := by
    have hk := Blk.new w1 30 #[.slice A1 rr.keys.length c1, .slice B1 rr.grs.length d1]
    exact hk
  have hsw2 : w1.heap.size + 1 ≤ (w1.alloc (.cells #[.slice A1 rr.keys.length c1, .slice B1 rr.grs.length d1] 30)).heap.size := by simp only [World.size_alloc]; omega
  generalize (w1.alloc (.cells #[.slice A1 rr.keys.length c1, .slice B1 rr.grs.length d1] 30)) = w2 at *
  have ck0 := k0.cell
  have fk0 := k0.frozen
  replace rs1 := sl_keep RInt.loc rs1 hbw2 hhi
  replace rs2 := sl_keep RGr.loc rs2 hbw2 hhi
  replace hhi := Nat.le_trans hhi hbw2.size
  replace hbw := below_below hbw hbw2
  refine (specRingTurn_any rr key _ _ _ _ _ hhi rs1 rs2 hl1 hl2 r1 ok1 HR.out).mono ?_
  rintro e w3 ⟨va3, vb3, rfl, o3, b3⟩
  obtain ⟨A3, c3, rfl⟩ := o3.keys.form
  obtain ⟨B3, d3, rfl⟩ := o3.grs.form
  replace rs1 := sl_keep RInt.loc rs1 b3 hhi
  replace rs2 := sl_keep RGr.loc rs2 b3 hhi
  replace hhi := Nat.le_trans hhi b3.size
  replace hbw := below_below hbw b3
  replace k0 := blk_keep k0 b3
  replace ck0 := k0.cell
  replace fk0 := k0.frozen
  have ax := below_alloc w3 (.cells #[.slice A3 r1.keys.length c3, .slice B3 r1.grs.length d3] 30)
  have ka0 := (blk_keep k0 ax).cell
  go_wp2_with fail
  clear ax ka0
  have hbw4 : Below w3.heap.size w3 (w3.alloc (.cells #[.slice A3 r1.keys.length c3, .slice B3 r1.grs.length d3] 30)) := below_alloc _ _
  have m0 : Blk (w3.alloc (.cells #[.slice A3 r1.keys.length c3, .slice B3 r1.grs.length d3] 30)) (w3.heap.size) 30 #[.slice A3 r1.keys.length c3, .slice B3 r1.grs.length d3] := by
    have hk := Blk.new w3 30 #[.slice A3 r1.keys.length c3, .slice B3 r1.grs.length d3]
    exact hk
  have hsw4 : w3.heap.size + 1 ≤ (w3.alloc (.cells #[.slice A3 r1.keys.length c3, .slice B3 r1.grs.length d3] 30)).heap.size := by simp only [World.size_alloc]; omega
  generalize (w3.alloc (.cells #[.slice A3 r1.keys.length c3, .slice B3 r1.grs.length d3] 30)) = w4 at *
  have cm0 := m0.cell
  have fm0 := m0.frozen
  replace rs1 := sl_keep RInt.loc rs1 hbw4 hhi
  replace rs2 := sl_keep RGr.loc rs2 hbw4 hhi
  replace hhi := Nat.le_trans hhi hbw4.size
  replace hbw := below_below hbw hbw4
  replace k0 := blk_keep k0 hbw4
  replace ck0 := k0.cell
  replace fk0 := k0.frozen
  replace o3 := o3.below hbw4
  refine (implRingTurn_any rr key _ _ _ _ _ hhi rs1 rs2 hl1 hl2 r1 ok1 HR.out).mono ?_
  rintro e w5 ⟨va5, vb5, rfl, o5, b5⟩
  obtain ⟨A5, c5, rfl⟩ := o5.keys.form
  obtain ⟨B5, d5, rfl⟩ := o5.grs.form
  replace rs1 := sl_keep RInt.loc rs1 b5 hhi
  replace rs2 := sl_keep RGr.loc rs2 b5 hhi
  replace hhi := Nat.le_trans hhi b5.size
  replace hbw := below_below hbw b5
  replace k0 := blk_keep k0 b5
  replace ck0 := k0.cell
  replace fk0 := k0.frozen
  replace m0 := blk_keep m0 b5
  replace cm0 := m0.cell
  replace fm0 := m0.frozen
  replace o3 := o3.below b5
  rcases hr1 with ⟨rfl, h1, h2, he⟩ | ⟨rfl, h1, h2, he⟩ | ⟨rfl, h1, he⟩
  · have hk1 := h1.2
    have hk9 : (rr.keys.length : Int) < 9 := by omega
    have hP := Lib.hid h1.1
    have hin : decide (key ∈ rr.keys) = false := decide_eq_false h2.1
    clear h1 h2 he
    have ax := below_alloc w5 (.cells #[.slice A5 r1.keys.length c5, .slice B5 r1.grs.length d5] 30)
    have ka0 := (blk_keep k0 ax).cell
    have ma0 := (blk_keep m0 ax).cell
    go_wp2_with fail
    clear ax ka0 ma0
    have hbw6 : Below w5.heap.size w5 (w5.alloc (.cells #[.slice A5 r1.keys.length c5, .slice B5 r1.grs.length d5] 30)) := below_alloc _ _
    have p0 : Blk (w5.alloc (.cells #[.slice A5 r1.keys.length c5, .slice B5 r1.grs.length d5] 30)) (w5.heap.size) 30 #[.slice A5 r1.keys.length c5, .slice B5 r1.grs.length d5] := by
      have hk := Blk.new w5 30 #[.slice A5 r1.keys.length c5, .slice B5 r1.grs.length d5]
      exact hk
    have hsw6 : w5.heap.size + 1 ≤ (w5.alloc (.cells #[.slice A5 r1.keys.length c5, .slice B5 r1.grs.length d5] 30)).heap.size := by simp only [World.size_alloc]; omega
    generalize (w5.alloc (.cells #[.slice A5 r1.keys.length c5, .slice B5 r1.grs.length d5] 30)) = w6 at *
    have cp0 := p0.cell
    have fp0 := p0.frozen
    replace rs1 := sl_keep RInt.loc rs1 hbw6 hhi
    replace rs2 := sl_keep RGr.loc rs2 hbw6 hhi
    replace hhi := Nat.le_trans hhi hbw6.size
    replace hbw := below_below hbw hbw6
    replace k0 := blk_keep k0 hbw6
    replace ck0 := k0.cell
    replace fk0 := k0.frozen
    replace m0 := blk_keep m0 hbw6
    replace cm0 := m0.cell
    replace fm0 := m0.frozen
    replace o3 := o3.below hbw6
    replace o5 := o5.below hbw6
    have s3 := o3.reads HG.out
    have s5 := o5.reads HG.out
    refine (ldRing_any r1 r1 _ _ _ _ _ _ _ _ _ (Nat.le_refl _) (Nat.le_refl _) s5.1 s5.2 s3.1 s3.2 true (by simp)).mono ?_
    rintro e w7 ⟨rfl, bw7⟩
    replace rs1 := sl_keep RInt.loc rs1 bw7 hhi
    replace rs2 := sl_keep RGr.loc rs2 bw7 hhi
    replace hhi := Nat.le_trans hhi bw7.size
    replace hbw := below_below hbw bw7
    replace k0 := blk_keep k0 bw7
    replace ck0 := k0.cell
    replace fk0 := k0.frozen
    replace m0 := blk_keep m0 bw7
    replace cm0 := m0.cell
    replace fm0 := m0.frozen
    replace p0 := blk_keep p0 bw7
    replace cp0 := p0.cell
    replace fp0 := p0.frozen
    replace o3 := o3.below bw7
    replace o5 := o5.below bw7
    replace s3 := o3.reads HG.out
    replace s5 := o5.reads HG.out
    go_wp2_with fail
    refine (specRingOk_any rr _ _ _ _ _ hhi rs1 rs2 true (by simp only [true_iff]; exact hP.out)).mono ?_
    rintro e w8 ⟨rfl, bw8⟩
    replace rs1 := sl_keep RInt.loc rs1 bw8 hhi
    replace rs2 := sl_keep RGr.loc rs2 bw8 hhi
    replace hhi := Nat.le_trans hhi bw8.size
    replace hbw := below_below hbw bw8
    replace k0 := blk_keep k0 bw8
    replace ck0 := k0.cell
    replace fk0 := k0.frozen
    replace m0 := blk_keep m0 bw8
    replace cm0 := m0.cell
    replace fm0 := m0.frozen
    replace p0 := blk_keep p0 bw8
    replace cp0 := p0.cell
    replace fp0 := p0.frozen
    replace o3 := o3.below bw8
    replace o5 := o5.below bw8
    replace s3 := o3.reads HG.out
    replace s5 := o5.reads HG.out
    go_wp2_with fail
    refine (ldIn_any rr.keys key _ _ _ _ _ _ rs1).mono ?_
    rintro e w9 ⟨rfl, rfl⟩
    go_wp2_with fail
    go_ret
    exact ⟨rfl, hbw⟩
  · have hk1 := h1.2
    have hP := Lib.hid h1.1
    have HE := Lib.hid he
    clear h1 he
    by_cases hin0 : key ∈ rr.keys
    · have hin : decide (key ∈ rr.keys) = true := decide_eq_true hin0
      clear hin0 h2
      have ax := below_alloc w5 (.cells #[.slice A5 r1.keys.length c5, .slice B5 r1.grs.length d5] 30)
      have ka0 := (blk_keep k0 ax).cell
      have ma0 := (blk_keep m0 ax).cell
      go_wp2_with fail
      clear ax ka0 ma0
      have hbw6 : Below w5.heap.size w5 (w5.alloc (.cells #[.slice A5 r1.keys.length c5, .slice B5 r1.grs.length d5] 30)) := below_alloc _ _
      have p0 : Blk (w5.alloc (.cells #[.slice A5 r1.keys.length c5, .slice B5 r1.grs.length d5] 30)) (w5.heap.size) 30 #[.slice A5 r1.keys.length c5, .slice B5 r1.grs.length d5] := by
        have hk := Blk.new w5 30 #[.slice A5 r1.keys.length c5, .slice B5 r1.grs.length d5]
        exact hk
      have hsw6 : w5.heap.size + 1 ≤ (w5.alloc (.cells #[.slice A5 r1.keys.length c5, .slice B5 r1.grs.length d5] 30)).heap.size := by simp only [World.size_alloc]; omega
      generalize (w5.alloc (.cells #[.slice A5 r1.keys.length c5, .slice B5 r1.grs.length d5] 30)) = w6 at *
      have cp0 := p0.cell
      have fp0 := p0.frozen
      replace rs1 := sl_keep RInt.loc rs1 hbw6 hhi
      replace rs2 := sl_keep RGr.loc rs2 hbw6 hhi
      replace hhi := Nat.le_trans hhi hbw6.size
      replace hbw := below_below hbw hbw6
      replace k0 := blk_keep k0 hbw6
      replace ck0 := k0.cell
      replace fk0 := k0.frozen
      replace m0 := blk_keep m0 hbw6
      replace cm0 := m0.cell
      replace fm0 := m0.frozen
      replace o3 := o3.below hbw6
      replace o5 := o5.below hbw6
      have s3 := o3.reads HG.out
      have s5 := o5.reads HG.out
      refine (ldRing_any r1 r1 _ _ _ _ _ _ _ _ _ (Nat.le_refl _) (Nat.le_refl _) s5.1 s5.2 s3.1 s3.2 true (by simp)).mono ?_
      rintro e w7 ⟨rfl, bw7⟩
      replace rs1 := sl_keep RInt.loc rs1 bw7 hhi
      replace rs2 := sl_keep RGr.loc rs2 bw7 hhi
      replace hhi := Nat.le_trans hhi bw7.size
      replace hbw := below_below hbw bw7
      replace k0 := blk_keep k0 bw7
      replace ck0 := k0.cell
      replace fk0 := k0.frozen
      replace m0 := blk_keep m0 bw7
      replace cm0 := m0.cell
      replace fm0 := m0.frozen
      replace p0 := blk_keep p0 bw7
      replace cp0 := p0.cell
      replace fp0 := p0.frozen
      replace o3 := o3.below bw7
      replace o5 := o5.below bw7
      replace s3 := o3.reads HG.out
      replace s5 := o5.reads HG.out
      go_wp2_with fail
      refine (specRingOk_any rr _ _ _ _ _ hhi rs1 rs2 true (by simp only [true_iff]; exact hP.out)).mono ?_
      rintro e w8 ⟨rfl, bw8⟩
      replace rs1 := sl_keep RInt.loc rs1 bw8 hhi
      replace rs2 := sl_keep RGr.loc rs2 bw8 hhi
      replace hhi := Nat.le_trans hhi bw8.size
      replace hbw := below_below hbw bw8
      replace k0 := blk_keep k0 bw8
      replace ck0 := k0.cell
      replace fk0 := k0.frozen
      replace m0 := blk_keep m0 bw8
      replace cm0 := m0.cell
      replace fm0 := m0.frozen
      replace p0 := blk_keep p0 bw8
      replace cp0 := p0.cell
      replace fp0 := p0.frozen
      replace o3 := o3.below bw8
      replace o5 := o5.below bw8
      replace s3 := o3.reads HG.out
      replace s5 := o5.reads HG.out
      go_wp2_with fail
      refine (ldIn_any rr.keys key _ _ _ _ _ _ rs1).mono ?_
      rintro e w9 ⟨rfl, rfl⟩
      go_wp2_with fail
      refine (ldRing_any r1 rr _ _ _ _ _ _ _ _ _ (Nat.le_refl _) hhi s5.1 s5.2 rs1 rs2 true (by simp; exact HE.out.symm)).mono ?_
      rintro e wa ⟨rfl, ba⟩
      go_wp2_with fail
      go_ret
      exact ⟨rfl, below_below hbw ba⟩
    · have hin : decide (key ∈ rr.keys) = false := decide_eq_false hin0
      have hk9 : (9 : Int) ≤ rr.keys.length := by
        have : ¬ rr.keys.length < 9 := fun h => h2 ⟨hin0, h⟩
        omega
      have t9 : decide ((rr.keys.length : Int) < 9) = false := decide_eq_false (by omega)
      clear hin0 h2
      have ax := below_alloc w5 (.cells #[.slice A5 r1.keys.length c5, .slice B5 r1.grs.length d5] 30)
      have ka0 := (blk_keep k0 ax).cell
      have ma0 := (blk_keep m0 ax).cell
      go_wp2_with fail
      clear ax ka0 ma0
      have hbw6 : Below w5.heap.size w5 (w5.alloc (.cells #[.slice A5 r1.keys.length c5, .slice B5 r1.grs.length d5] 30)) := below_alloc _ _
      have p0 : Blk (w5.alloc (.cells #[.slice A5 r1.keys.length c5, .slice B5 r1.grs.length d5] 30)) (w5.heap.size) 30 #[.slice A5 r1.keys.length c5, .slice B5 r1.grs.length d5] := by
        have hk := Blk.new w5 30 #[.slice A5 r1.keys.length c5, .slice B5 r1.grs.length d5]
        exact hk
      have hsw6 : w5.heap.size + 1 ≤ (w5.alloc (.cells #[.slice A5 r1.keys.length c5, .slice B5 r1.grs.length d5] 30)).heap.size := by simp only [World.size_alloc]; omega
      generalize (w5.alloc (.cells #[.slice A5 r1.keys.length c5, .slice B5 r1.grs.length d5] 30)) = w6 at *
      have cp0 := p0.cell
      have fp0 := p0.frozen
      replace rs1 := sl_keep RInt.loc rs1 hbw6 hhi
      replace rs2 := sl_keep RGr.loc rs2 hbw6 hhi
      replace hhi := Nat.le_trans hhi hbw6.size
      replace hbw := below_below hbw hbw6
      replace k0 := blk_keep k0 hbw6
      replace ck0 := k0.cell
      replace fk0 := k0.frozen
      replace m0 := blk_keep m0 hbw6
      replace cm0 := m0.cell
      replace fm0 := m0.frozen
      replace o3 := o3.below hbw6
      replace o5 := o5.below hbw6
      have s3 := o3.reads HG.out
      have s5 := o5.reads HG.out
      refine (ldRing_any r1 r1 _ _ _ _ _ _ _ _ _ (Nat.le_refl _) (Nat.le_refl _) s5.1 s5.2 s3.1 s3.2 true (by simp)).mono ?_
      rintro e w7 ⟨rfl, bw7⟩
      replace rs1 := sl_keep RInt.loc rs1 bw7 hhi
      replace rs2 := sl_keep RGr.loc rs2 bw7 hhi
      replace hhi := Nat.le_trans hhi bw7.size
      replace hbw := below_below hbw bw7
      replace k0 := blk_keep k0 bw7
      replace ck0 := k0.cell
      replace fk0 := k0.frozen
      replace m0 := blk_keep m0 bw7
      replace cm0 := m0.cell
      replace fm0 := m0.frozen
      replace p0 := blk_keep p0 bw7
      replace cp0 := p0.cell
      replace fp0 := p0.frozen
      replace o3 := o3.below bw7
      replace o5 := o5.below bw7
      replace s3 := o3.reads HG.out
      replace s5 := o5.reads HG.out
      go_wp2_with fail
      refine (specRingOk_any rr _ _ _ _ _ hhi rs1 rs2 true (by simp only [true_iff]; exact hP.out)).mono ?_
      rintro e w8 ⟨rfl, bw8⟩
      replace rs1 := sl_keep RInt.loc rs1 bw8 hhi
      replace rs2 := sl_keep RGr.loc rs2 bw8 hhi
      replace hhi := Nat.le_trans hhi bw8.size
      replace hbw := below_below hbw bw8
      replace k0 := blk_keep k0 bw8
      replace ck0 := k0.cell
      replace fk0 := k0.frozen
      replace m0 := blk_keep m0 bw8
      replace cm0 := m0.cell
      replace fm0 := m0.frozen
      replace p0 := blk_keep p0 bw8
      replace cp0 := p0.cell
      replace fp0 := p0.frozen
      replace o3 := o3.below bw8
      replace o5 := o5.below bw8
      replace s3 := o3.reads HG.out
      replace s5 := o5.reads HG.out
      go_wp2_with fail
      refine (ldIn_any rr.keys key _ _ _ _ _ _ rs1).mono ?_
      rintro e w9 ⟨rfl, rfl⟩
      go_wp2_with fail
      refine (ldRing_any r1 rr _ _ _ _ _ _ _ _ _ (Nat.le_refl _) hhi s5.1 s5.2 rs1 rs2 true (by simp; exact HE.out.symm)).mono ?_
      rintro e wa ⟨rfl, ba⟩
      go_wp2_with fail
      go_ret
      exact ⟨rfl, below_below hbw ba⟩
  · clear he
    by_cases hP : ringP rr
    · have HP := Lib.hid hP
      have hk : key < 1 ∨ 99 < key := by
        have : ¬ (1 ≤ key ∧ key ≤ 99) := fun h => h1 ⟨hP, h⟩
        omega
      clear h1 hP
      rcases hk with hk | hk
      · have ax := below_alloc w5 (.cells #[.slice A5 r1.keys.length c5, .slice B5 r1.grs.length d5] 30)
        have ka0 := (blk_keep k0 ax).cell
        have ma0 := (blk_keep m0 ax).cell
        go_wp2_with fail
        clear ax ka0 ma0
        have hbw6 : Below w5.heap.size w5 (w5.alloc (.cells #[.slice A5 r1.keys.length c5, .slice B5 r1.grs.length d5] 30)) := below_alloc _ _
        have p0 : Blk (w5.alloc (.cells #[.slice A5 r1.keys.length c5, .slice B5 r1.grs.length d5] 30)) (w5.heap.size) 30 #[.slice A5 r1.keys.length c5, .slice B5 r1.grs.length d5] := by
          have hk := Blk.new w5 30 #[.slice A5 r1.keys.length c5, .slice B5 r1.grs.length d5]
          exact hk
        have hsw6 : w5.heap.size + 1 ≤ (w5.alloc (.cells #[.slice A5 r1.keys.length c5, .slice B5 r1.grs.length d5] 30)).heap.size := by simp only [World.size_alloc]; omega
        generalize (w5.alloc (.cells #[.slice A5 r1.keys.length c5, .slice B5 r1.grs.length d5] 30)) = w6 at *
        have cp0 := p0.cell
        have fp0 := p0.frozen
        replace rs1 := sl_keep RInt.loc rs1 hbw6 hhi
        replace rs2 := sl_keep RGr.loc rs2 hbw6 hhi
        replace hhi := Nat.le_trans hhi hbw6.size
        replace hbw := below_below hbw hbw6
        replace k0 := blk_keep k0 hbw6
        replace ck0 := k0.cell
        replace fk0 := k0.frozen
        replace m0 := blk_keep m0 hbw6
        replace cm0 := m0.cell
        replace fm0 := m0.frozen
        replace o3 := o3.below hbw6
        replace o5 := o5.below hbw6
        have s3 := o3.reads HG.out
        have s5 := o5.reads HG.out
        refine (ldRing_any r1 r1 _ _ _ _ _ _ _ _ _ (Nat.le_refl _) (Nat.le_refl _) s5.1 s5.2 s3.1 s3.2 true (by simp)).mono ?_
        rintro e w7 ⟨rfl, bw7⟩
        replace rs1 := sl_keep RInt.loc rs1 bw7 hhi
        replace rs2 := sl_keep RGr.loc rs2 bw7 hhi
        replace hhi := Nat.le_trans hhi bw7.size
        replace hbw := below_below hbw bw7
        replace k0 := blk_keep k0 bw7
        replace ck0 := k0.cell
        replace fk0 := k0.frozen
        replace m0 := blk_keep m0 bw7
        replace cm0 := m0.cell
        replace fm0 := m0.frozen
        replace p0 := blk_keep p0 bw7
        replace cp0 := p0.cell
        replace fp0 := p0.frozen
        replace o3 := o3.below bw7
        replace o5 := o5.below bw7
        replace s3 := o3.reads HG.out
        replace s5 := o5.reads HG.out
        go_wp2_with fail
        refine (specRingOk_any rr _ _ _ _ _ hhi rs1 rs2 true (by simp only [true_iff]; exact HP.out)).mono ?_
        rintro e w8 ⟨rfl, bw8⟩
        replace rs1 := sl_keep RInt.loc rs1 bw8 hhi
        replace rs2 := sl_keep RGr.loc rs2 bw8 hhi
        replace hhi := Nat.le_trans hhi bw8.size
        replace hbw := below_below hbw bw8
        replace k0 := blk_keep k0 bw8
        replace ck0 := k0.cell
        replace fk0 := k0.frozen
        replace m0 := blk_keep m0 bw8
        replace cm0 := m0.cell
        replace fm0 := m0.frozen
        replace p0 := blk_keep p0 bw8
        replace cp0 := p0.cell
        replace fp0 := p0.frozen
        replace o3 := o3.below bw8
        replace o5 := o5.below bw8
        replace s3 := o3.reads HG.out
        replace s5 := o5.reads HG.out
        go_wp2_with fail
        refine (ldRing_any r1 r1 _ _ _ _ _ _ _ _ _ (Nat.le_refl _) (Nat.le_refl _) s5.1 s5.2 s3.1 s3.2 true (by simp)).mono ?_
        rintro e w9 ⟨rfl, bw9⟩
        replace rs1 := sl_keep RInt.loc rs1 bw9 hhi
        replace rs2 := sl_keep RGr.loc rs2 bw9 hhi
        replace hhi := Nat.le_trans hhi bw9.size
        replace hbw := below_below hbw bw9
        replace k0 := blk_keep k0 bw9
        replace ck0 := k0.cell
        replace fk0 := k0.frozen
        replace m0 := blk_keep m0 bw9
        replace cm0 := m0.cell
        replace fm0 := m0.frozen
        replace p0 := blk_keep p0 bw9
        replace cp0 := p0.cell
        replace fp0 := p0.frozen
        replace o3 := o3.below bw9
        replace o5 := o5.below bw9
        replace s3 := o3.reads HG.out
        replace s5 := o5.reads HG.out
        go_wp2_with fail
        go_ret
        exact ⟨rfl, hbw⟩
      · have ax := below_alloc w5 (.cells #[.slice A5 r1.keys.length c5, .slice B5 r1.grs.length d5] 30)
        have ka0 := (blk_keep k0 ax).cell
        have ma0 := (blk_keep m0 ax).cell
        go_wp2_with fail
        clear ax ka0 ma0
        have hbw6 : Below w5.heap.size w5 (w5.alloc (.cells #[.slice A5 r1.keys.length c5, .slice B5 r1.grs.length d5] 30)) := below_alloc _ _
        have p0 : Blk (w5.alloc (.cells #[.slice A5 r1.keys.length c5, .slice B5 r1.grs.length d5] 30)) (w5.heap.size) 30 #[.slice A5 r1.keys.length c5, .slice B5 r1.grs.length d5] := by
          have hk := Blk.new w5 30 #[.slice A5 r1.keys.length c5, .slice B5 r1.grs.length d5]
          exact hk
        have hsw6 : w5.heap.size + 1 ≤ (w5.alloc (.cells #[.slice A5 r1.keys.length c5, .slice B5 r1.grs.length d5] 30)).heap.size := by simp only [World.size_alloc]; omega
        generalize (w5.alloc (.cells #[.slice A5 r1.keys.length c5, .slice B5 r1.grs.length d5] 30)) = w6 at *
        have cp0 := p0.cell
        have fp0 := p0.frozen
        replace rs1 := sl_keep RInt.loc rs1 hbw6 hhi
        replace rs2 := sl_keep RGr.loc rs2 hbw6 hhi
        replace hhi := Nat.le_trans hhi hbw6.size
        replace hbw := below_below hbw hbw6
        replace k0 := blk_keep k0 hbw6
        replace ck0 := k0.cell
        replace fk0 := k0.frozen
        replace m0 := blk_keep m0 hbw6
        replace cm0 := m0.cell
        replace fm0 := m0.frozen
        replace o3 := o3.below hbw6
        replace o5 := o5.below hbw6
        have s3 := o3.reads HG.out
        have s5 := o5.reads HG.out
        refine (ldRing_any r1 r1 _ _ _ _ _ _ _ _ _ (Nat.le_refl _) (Nat.le_refl _) s5.1 s5.2 s3.1 s3.2 true (by simp)).mono ?_
        rintro e w7 ⟨rfl, bw7⟩
        replace rs1 := sl_keep RInt.loc rs1 bw7 hhi
        replace rs2 := sl_keep RGr.loc rs2 bw7 hhi
        replace hhi := Nat.le_trans hhi bw7.size
        replace hbw := below_below hbw bw7
        replace k0 := blk_keep k0 bw7
        replace ck0 := k0.cell
        replace fk0 := k0.frozen
        replace m0 := blk_keep m0 bw7
        replace cm0 := m0.cell
        replace fm0 := m0.frozen
        replace p0 := blk_keep p0 bw7
        replace cp0 := p0.cell
        replace fp0 := p0.frozen
        replace o3 := o3.below bw7
        replace o5 := o5.below bw7
        replace s3 := o3.reads HG.out
        replace s5 := o5.reads HG.out
        go_wp2_with fail
        refine (specRingOk_any rr _ _ _ _ _ hhi rs1 rs2 true (by simp only [true_iff]; exact HP.out)).mono ?_
        rintro e w8 ⟨rfl, bw8⟩
        replace rs1 := sl_keep RInt.loc rs1 bw8 hhi
        replace rs2 := sl_keep RGr.loc rs2 bw8 hhi
        replace hhi := Nat.le_trans hhi bw8.size
        replace hbw := below_below hbw bw8
        replace k0 := blk_keep k0 bw8
        replace ck0 := k0.cell
        replace fk0 := k0.frozen
        replace m0 := blk_keep m0 bw8
        replace cm0 := m0.cell
        replace fm0 := m0.frozen
        replace p0 := blk_keep p0 bw8
        replace cp0 := p0.cell
        replace fp0 := p0.frozen
        replace o3 := o3.below bw8
        replace o5 := o5.below bw8
        replace s3 := o3.reads HG.out
        replace s5 := o5.reads HG.out
        go_wp2_with fail
        refine (ldRing_any r1 r1 _ _ _ _ _ _ _ _ _ (Nat.le_refl _) (Nat.le_refl _) s5.1 s5.2 s3.1 s3.2 true (by simp)).mono ?_
        rintro e w9 ⟨rfl, bw9⟩
        replace rs1 := sl_keep RInt.loc rs1 bw9 hhi
        replace rs2 := sl_keep RGr.loc rs2 bw9 hhi
        replace hhi := Nat.le_trans hhi bw9.size
        replace hbw := below_below hbw bw9
        replace k0 := blk_keep k0 bw9
        replace ck0 := k0.cell
        replace fk0 := k0.frozen
        replace m0 := blk_keep m0 bw9
        replace cm0 := m0.cell
        replace fm0 := m0.frozen
        replace p0 := blk_keep p0 bw9
        replace cp0 := p0.cell
        replace fp0 := p0.frozen
        replace o3 := o3.below bw9
        replace o5 := o5.below bw9
        replace s3 := o3.reads HG.out
        replace s5 := o5.reads HG.out
        go_wp2_with fail
        go_ret
        exact ⟨rfl, hbw⟩
    · have HP := Lib.hid hP; clear hP h1
      have ax := below_alloc w5 (.cells #[.slice A5 r1.keys.length c5, .slice B5 r1.grs.length d5] 30)
      have ka0 := (blk_keep k0 ax).cell
      have ma0 := (blk_keep m0 ax).cell
      go_wp2_with fail
      clear ax ka0 ma0
      have hbw6 : Below w5.heap.size w5 (w5.alloc (.cells #[.slice A5 r1.keys.length c5, .slice B5 r1.grs.length d5] 30)) := below_alloc _ _
      have p0 : Blk (w5.alloc (.cells #[.slice A5 r1.keys.length c5, .slice B5 r1.grs.length d5] 30)) (w5.heap.size) 30 #[.slice A5 r1.keys.length c5, .slice B5 r1.grs.length d5] := by
        have hk := Blk.new w5 30 #[.slice A5 r1.keys.length c5, .slice B5 r1.grs.length d5]
        exact hk
      have hsw6 : w5.heap.size + 1 ≤ (w5.alloc (.cells #[.slice A5 r1.keys.length c5, .slice B5 r1.grs.length d5] 30)).heap.size := by simp only [World.size_alloc]; omega
      generalize (w5.alloc (.cells #[.slice A5 r1.keys.length c5, .slice B5 r1.grs.length d5] 30)) = w6 at *
      have cp0 := p0.cell
      have fp0 := p0.frozen
      replace rs1 := sl_keep RInt.loc rs1 hbw6 hhi
      replace rs2 := sl_keep RGr.loc rs2 hbw6 hhi
      replace hhi := Nat.le_trans hhi hbw6.size
      replace hbw := below_below hbw hbw6
      replace k0 := blk_keep k0 hbw6
      replace ck0 := k0.cell
      replace fk0 := k0.frozen
      replace m0 := blk_keep m0 hbw6
      replace cm0 := m0.cell
      replace fm0 := m0.frozen
      replace o3 := o3.below hbw6
      replace o5 := o5.below hbw6
      have s3 := o3.reads HG.out
      have s5 := o5.reads HG.out
      refine (ldRing_any r1 r1 _ _ _ _ _ _ _ _ _ (Nat.le_refl _) (Nat.le_refl _) s5.1 s5.2 s3.1 s3.2 true (by simp)).mono ?_
      rintro e w7 ⟨rfl, bw7⟩
      replace rs1 := sl_keep RInt.loc rs1 bw7 hhi
      replace rs2 := sl_keep RGr.loc rs2 bw7 hhi
      replace hhi := Nat.le_trans hhi bw7.size
      replace hbw := below_below hbw bw7
      replace k0 := blk_keep k0 bw7
      replace ck0 := k0.cell
      replace fk0 := k0.frozen
      replace m0 := blk_keep m0 bw7
      replace cm0 := m0.cell
      replace fm0 := m0.frozen
      replace p0 := blk_keep p0 bw7
      replace cp0 := p0.cell
      replace fp0 := p0.frozen
      replace o3 := o3.below bw7
      replace o5 := o5.below bw7
      replace s3 := o3.reads HG.out
      replace s5 := o5.reads HG.out
      go_wp2_with fail
      refine (specRingOk_any rr _ _ _ _ _ hhi rs1 rs2 false (by simp only [Bool.false_eq_true, false_iff]; exact HP.out)).mono ?_
      rintro e w8 ⟨rfl, bw8⟩
      replace rs1 := sl_keep RInt.loc rs1 bw8 hhi
      replace rs2 := sl_keep RGr.loc rs2 bw8 hhi
      replace hhi := Nat.le_trans hhi bw8.size
      replace hbw := below_below hbw bw8
      replace k0 := blk_keep k0 bw8
      replace ck0 := k0.cell
      replace fk0 := k0.frozen
      replace m0 := blk_keep m0 bw8
      replace cm0 := m0.cell
      replace fm0 := m0.frozen
      replace p0 := blk_keep p0 bw8
      replace cp0 := p0.cell
      replace fp0 := p0.frozen
      replace o3 := o3.below bw8
      replace o5 := o5.below bw8
      replace s3 := o3.reads HG.out
      replace s5 := o5.reads HG.out
      go_wp2_with fail
      refine (ldRing_any r1 r1 _ _ _ _ _ _ _ _ _ (Nat.le_refl _) (Nat.le_refl _) s5.1 s5.2 s3.1 s3.2 true (by simp)).mono ?_
      rintro e w9 ⟨rfl, bw9⟩
      replace rs1 := sl_keep RInt.loc rs1 bw9 hhi
      replace rs2 := sl_keep RGr.loc rs2 bw9 hhi
      replace hhi := Nat.le_trans hhi bw9.size
      replace hbw := below_below hbw bw9
      replace k0 := blk_keep k0 bw9
      replace ck0 := k0.cell
      replace fk0 := k0.frozen
      replace m0 := blk_keep m0 bw9
      replace cm0 := m0.cell
      replace fm0 := m0.frozen
      replace p0 := blk_keep p0 bw9
      replace cp0 := p0.cell
      replace fp0 := p0.frozen
      replace o3 := o3.below bw9
      replace o5 := o5.below bw9
      replace s3 := o3.reads HG.out
      replace s5 := o5.reads HG.out
      go_wp2_with fail
      go_ret
      exact ⟨rfl, hbw⟩

set_option maxRecDepth 100000 in
theorem lifted (os : Os) (started : os.Started) (H : Type) (enc : TypeId × Value → H) :
    ReturnsInHanded {} Try.checked os 10 .any (Rows.fnRingFullSpec.pre6 enc Try.prog Try.f10 Rows.fnRingFullRow.domain false) (Rows.fnRingFullSpec.post enc Try.prog Try.f10 false true false false) := by
  refine law_lifted own started (by kernel_rfl) Try.func10 laidOut (by kernel_rfl) rfl Try.underlying4 rfl (fun ds hl => ?_)
    (ChangeSpec.witness6 (enc := enc) (C := Try.checked) false ⟨#[], #[.slice none 0 0], []⟩ 8 (by kernel_rfl) (by kernel_rfl) (by kernel_rfl) (by kernel_rfl)) ?_
  · match ds, hl with
    | [_], _ => rfl
  intro W base args ds p hval0 hA hlt hsz hsh
  have hval : ∀ (j : Nat) t v, Try.f10.params[j]? = some t → args[j]? = some v → Value.okWide Try.prog W .any base t v := hval0
  rw [Try.params10] at hA hval
  obtain ⟨v0, d0, rfl, rfl, h0⟩ := trodAll_one hA
  obtain ⟨a0_0, r0⟩ := open_byte_slice (hval 0 34 v0 rfl rfl) h0 (by first | exact hlt | exact fun x hx => hlt x (by simp [hx]))
  exact walk a0_0 r0 W

set_option maxRecDepth 100000 in
theorem factsHold : joinedFacts Try.pinned.checked.prog 10 Try.f10 Rows.fnRingFullSpec Rows.fnRingFullRow = true := by
  unfold joinedFacts
  rw [liftsFinal, mayEnter, makeIs]
  kernel_rfl
set_option maxRecDepth 100000 in
theorem proved : Rows.FnRingFullSaid :=
  OpenClaim.holds_of_wide 10 Try.f10 rfl rfl rfl rfl rfl rfl rfl ⟨rfl, rfl, rfl, rfl, rfl⟩ rfl rfl rfl rfl rfl (by kernel_rfl) Try.func10 factsHold
    (of_decide_eq_true (by kernel_rfl)) (by unfold Func.isWrapper; first | (rw [if_pos (by decide +kernel)]; kernel_rfl) | (rw [if_neg (by decide +kernel)]; exact ⟨rfl, rfl⟩))
    (fun os started H enc _ => lifted os started H enc)
#print axioms proved
end Go.Proofs.Ytdbeclnoaeiaeaa.lawrfu
