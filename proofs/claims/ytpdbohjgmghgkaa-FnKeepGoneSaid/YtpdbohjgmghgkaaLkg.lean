


/- The law FnKeepGone: each snapshot is kept, or goes. No condition. -/
import Derived.Test.YtpdbohjgmghgkaaLaw
import Derived.Test.YtpdbohjgmghgkaaDrK
import Derived.Test.YtpdbohjgmghgkaaHeard
import Derived.Test.YtpdbohjgmghgkaaEnter
import Derived.Test.YtpdbohjgmghgkaaMake
namespace Go.Proofs.Ytpdbohjgmghgkaa.lawkg
open Go.RowKit Go.ChangeShapes Go.WideShapes Go.ChangeAt

set_option maxHeartbeats 8000000 in
theorem walk (l : List Int) {v : Value} {w : World} (h : RSl RByte 1 w 0 w.heap.size l [v]) (w' : World) (hw : w' = w := by rfl) :
    Calls Try.prog 16 #[v] w' fun e w' => e = .returned (.bool true) ∧ Below w.heap.size w w' := by
  subst hw
  obtain ⟨A, c, rfl⟩ := h.form
  have hlen : l.length ≤ maxLen := by obtain ⟨_, h1, h2⟩ := h.len_; omega
  unfold maxLen at hlen
  by_cases hbig : 1048576 < l.length
  · go_enter Try.func16, Try.ntmps16
    go_wp2_with fail
    go_ret
    exact ⟨rfl, Below.refl _ _⟩
  go_enter Try.func16, Try.ntmps16
  go_wp2_with fail
  refine (dDrawKeepGone_any l A _ c _ h).mono ?_
  rintro e w1 ⟨v1, xs, a, b, c9, rfl, o1, l1, g1, hr, bb⟩
  have G1 := Lib.hid g1; clear g1
  have h64 : In64 a ∧ In64 b ∧ In64 c9 := by unfold In64; omega
  obtain ⟨A1, c1, rfl⟩ := o1.form
  have z1 := bb.size
  obtain ⟨r, hR⟩ := KGoneR_total xs a b c9
  have HR := Lib.hid hR; clear hR
  have HI := Lib.hid (KGoneR_in64 HR.out)
  have HLR := KGoneR_len HR.out
  go_wp2_with fail
  have hbw2 : Below w1.heap.size w1 (w1.alloc (.cells #[.int .i64 a, .int .i64 b, .int .i64 c9] 68)) := below_alloc _ _
  have k0 : Blk (w1.alloc (.cells #[.int .i64 a, .int .i64 b, .int .i64 c9] 68)) (w1.heap.size) 68 #[.int .i64 a, .int .i64 b, .int .i64 c9] := by
    have hk := Blk.new w1 68 #[.int .i64 a, .int .i64 b, .int .i64 c9]
    exact hk
  have hsw2 : w1.heap.size + 1 ≤ (w1.alloc (.cells #[.int .i64 a, .int .i64 b, .int .i64 c9] 68)).heap.size := by simp only [World.size_alloc]; omega
  generalize (w1.alloc (.cells #[.int .i64 a, .int .i64 b, .int .i64 c9] 68)) = w2 at *
  have ck0 := k0.cell
  have fk0 := k0.frozen
  replace o1 := o1.below hbw2
  replace bb := below_below bb hbw2
  have s1 := o1.sl G1.out (Nat.le_refl _)
  have hhi : w2.heap.size ≤ w2.heap.size := Nat.le_refl _
  clear o1
  refine (implKeepGone_any xs a b c9 h64 _ w2 _ _ (Nat.le_refl _) s1 r HR.out).mono ?_
  rintro e w3 ⟨vm, rfl, om, b3⟩
  obtain ⟨Am, cm, rfl⟩ := om.form
  replace k0 := blk_keep k0 b3
  replace ck0 := k0.cell
  replace fk0 := k0.frozen
  replace s1 := sl_keep RSt.loc s1 b3 hhi
  replace hhi := Nat.le_trans hhi (b3).size
  replace bb := below_below bb b3
  go_wp2_with fail
  refine (specKeepGone_any xs a b c9 h64 _ w3 _ _ hhi s1 r HR.out).mono ?_
  rintro e w4 ⟨vs, rfl, os, b4⟩
  obtain ⟨As, cs, rfl⟩ := os.form
  replace k0 := blk_keep k0 b4
  replace ck0 := k0.cell
  replace fk0 := k0.frozen
  replace s1 := sl_keep RSt.loc s1 b4 hhi
  replace hhi := Nat.le_trans hhi (b4).size
  try replace om := om.below b4
  replace bb := below_below bb b4
  go_wp2_with fail
  refine (ldInts_any r r _ _ w4 _ _ _ _ (om.sl HI.out (Nat.le_refl _)) (os.sl HI.out (Nat.le_refl _))).mono ?_
  rintro e w5 ⟨rfl, n5, h5⟩
  have b5 : Below w4.heap.size w4 w5 := h5 ▸ below_drewN (Below.refl w4.heap.size w4) n5
  clear h5 os
  replace k0 := blk_keep k0 b5
  replace ck0 := k0.cell
  replace fk0 := k0.frozen
  replace s1 := sl_keep RSt.loc s1 b5 hhi
  replace hhi := Nat.le_trans hhi (b5).size
  try replace om := om.below b5
  replace bb := below_below bb b5
  obtain ⟨q, hq⟩ := tell (stP xs)
  have t0 : decide (r = r) = true := by simp
  go_wp2_with fail
  refine (specStampsOk_any xs _ w5 _ _ hhi s1 q hq).mono ?_
  rintro e w6 ⟨rfl, b6⟩
  replace k0 := blk_keep k0 b6
  replace ck0 := k0.cell
  replace fk0 := k0.frozen
  replace s1 := sl_keep RSt.loc s1 b6 hhi
  replace hhi := Nat.le_trans hhi (b6).size
  try replace om := om.below b6
  replace bb := below_below bb b6
  cases q with
  | false =>
    have HQ := Lib.hid hq; clear hq
    go_wp2_with fail
    refine (specKeepGone_any xs a b c9 h64 _ w6 _ _ hhi s1 r HR.out).mono ?_
    rintro e w7 ⟨vs, rfl, os, b7⟩
    obtain ⟨As, cs, rfl⟩ := os.form
    replace om := om.below b7
    go_wp2_with fail
    refine (ldInts_any r r _ _ w7 _ _ _ _ (om.sl HI.out (Nat.le_refl _)) (os.sl HI.out (Nat.le_refl _))).mono ?_
    rintro e w8 ⟨rfl, n8, h8⟩
    have b8 : Below w7.heap.size w7 w8 := h8 ▸ below_drewN (Below.refl w7.heap.size w7) n8
    clear h8
    go_wp2_with fail
    go_ret
    exact ⟨rfl, below_below (below_below bb b7) b8⟩
  | true =>
    have H2 := Lib.hid (hq.1 rfl); clear hq
    have hrr := HR.out.is H2.out
    have HRR := Lib.hid hrr; clear hrr
    obtain ⟨r1, hr1⟩ := KAllR_total xs a b c9
    have R1 := Lib.hid hr1; clear hr1
    go_wp2_with fail
    refine (implKeepAll_any xs a b c9 h64 _ w6 _ _ hhi s1 r1 R1.out).mono ?_
    rintro e w7 ⟨v7, rfl, p1, b7⟩
    obtain ⟨A7, c7, rfl⟩ := p1.form
    replace k0 := blk_keep k0 b7
    replace ck0 := k0.cell
    replace fk0 := k0.frozen
    replace s1 := sl_keep RSt.loc s1 b7 hhi
    replace hhi := Nat.le_trans hhi (b7).size
    try replace om := om.below b7
    replace bb := below_below bb b7
    have HI1 := Lib.hid (KAllR_in64 R1.out)
    have HLR1 := KAllR_len R1.out
    have hsum : r1.length + r.length = xs.length := by
      rw [R1.out.is H2.out, HRR.out, sn_len, sn_len]
      exact kG_len xs a b c9
    have q1 := p1.sl HI1.out (Nat.le_refl _)
    have sr := om.sl HI.out (Nat.le_refl _)
    clear p1
    go_wp2_with fail
    go_loopw [7] (fun ii wr => ∃ k : Nat, k ≤ xs.length ∧ ii = .int .i64 k ∧ Below w7.heap.size w7 wr) (fun ii _ => xs.length - (intOf ii).toNat)
    case atStart => exact ⟨0, Nat.zero_le _, rfl, Below.refl _ _⟩
    case round =>
      obtain ⟨k, hk, rfl, hbr⟩ := hrel
      have g2 := sl_keep RSt.loc s1 hbr hhi
      have t1 := sl_keep RInt.loc q1 hbr (Nat.le_refl _)
      have t2 := sl_keep RInt.loc sr hbr (Nat.le_refl _)
      by_cases hlt : k < xs.length
      · obtain ⟨x, hxk⟩ := some_of_lt hlt
        obtain ⟨b1, off, rfl, _, _, hx64, hcell, hcell1⟩ := st_at g2 hxk
        have hne : decide (x.s ∈ r1) = !decide (x.s ∈ r) := by
          rw [R1.out.is H2.out, HRR.out, ← snapAt_get hxk, Bool.eq_iff_iff, Bool.not_eq_true', decide_eq_true_iff, decide_eq_false_iff_not, sn_mem H2.out.1 (fun i hi => kA_lt hi) hlt, sn_mem H2.out.1 (fun i hi => kG_lt hi) hlt, kG_mem hlt]
          simp
        have HNE := Lib.hid hne; clear hne hxk
        go_wp2_with fail
        have past0 := past_cell hcell
        refine region_past (by kernel_rfl) (by kernel_rfl) ?_
        repeat (go_big_quiet_step (fail))
        go_big_quiet_step ((go_at_call 37; refine past_same (ldIn_any r1 x.s _ _ _ _ _ _ (sl_keep RInt.loc t1 (Past.ok _) hbr.size))))
        repeat (go_big_quiet_step (fail))
        go_big_quiet_step ((go_at_call 37; refine past_same (ldIn_any r x.s _ _ _ _ _ _ (sl_keep RInt.loc t2 (Past.ok _) hbr.size))))
        repeat (go_big_quiet_step (fail))
        refine wpQuiet_nil ?_
        intro wq hw1
        have hq := past_out hw1
        clear hw1 past0
        rw [HNE.out]
        obtain ⟨q, hqq⟩ : ∃ q : Bool, q = decide (x.s ∈ r) := ⟨_, rfl⟩
        rw [← hqq]
        clear hqq
        cases q
        all_goals
          go_wp2_with fail
          go_roundw
          case rel => exact ⟨k + 1, by omega, by go_num, below_below hbr hq⟩
          case measure => simp [intOf]; omega
      · obtain rfl : k = xs.length := by omega
        have u1 : ((r1.length : Int) + (r.length : Int) == (xs.length : Int)) = true := beq_iff_eq.2 (by omega)
        go_wp2_with fail
        go_ret
        exact ⟨rfl, below_below bb hbr⟩

set_option maxRecDepth 100000 in
theorem lifted (os : Os) (started : os.Started) (H : Type) (enc : TypeId × Value → H) :
    ReturnsInHanded {} Try.checked os 16 .any (Rows.fnKeepGoneSpec.pre6 enc Try.prog Try.f16 Rows.fnKeepGoneRow.domain false) (Rows.fnKeepGoneSpec.post enc Try.prog Try.f16 false true false false) := by
  refine law_lifted own started (by kernel_rfl) Try.func16 laidOut (by kernel_rfl) rfl Try.underlying4 rfl (fun ds hl => ?_)
    (ChangeSpec.witness6 (enc := enc) (C := Try.checked) false ⟨#[], #[.slice none 0 0], []⟩ 8 (by kernel_rfl) (by kernel_rfl) (by kernel_rfl) (by kernel_rfl)) ?_
  · match ds, hl with
    | [_], _ => rfl
  intro W base args ds p hval0 hA hlt hsz hsh
  have hval : ∀ (j : Nat) t v, Try.f16.params[j]? = some t → args[j]? = some v → Value.okWide Try.prog W .any base t v := hval0
  rw [Try.params16] at hA hval
  obtain ⟨v0, d0, rfl, rfl, h0⟩ := trodAll_one hA
  obtain ⟨a0_0, r0⟩ := open_byte_slice (hval 0 30 v0 rfl rfl) h0 (by first | exact hlt | exact fun x hx => hlt x (by simp [hx]))
  exact walk a0_0 r0 W

set_option maxRecDepth 100000 in
theorem factsHold : joinedFacts Try.pinned.checked.prog 16 Try.f16 Rows.fnKeepGoneSpec Rows.fnKeepGoneRow = true := by
  unfold joinedFacts
  rw [liftsFinal, mayEnter, makeIs]
  kernel_rfl
set_option maxRecDepth 100000 in
theorem proved : Rows.FnKeepGoneSaid :=
  OpenClaim.holds_of_wide 16 Try.f16 rfl rfl rfl rfl rfl rfl rfl ⟨rfl, rfl, rfl, rfl, rfl⟩ rfl rfl rfl rfl rfl (by kernel_rfl) Try.func16 factsHold
    (of_decide_eq_true (by kernel_rfl)) (by unfold Func.isWrapper; first | (rw [if_pos (by decide +kernel)]; kernel_rfl) | (rw [if_neg (by decide +kernel)]; exact ⟨rfl, rfl⟩))
    (fun os started H enc _ => lifted os started H enc)
#print axioms proved
end Go.Proofs.Ytpdbohjgmghgkaa.lawkg
