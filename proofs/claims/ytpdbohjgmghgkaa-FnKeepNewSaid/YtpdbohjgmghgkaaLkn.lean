


/- The law FnKeepNew: the newest is kept by any rule that keeps something. No condition. -/
import Derived.Test.YtpdbohjgmghgkaaLaw
import Derived.Test.YtpdbohjgmghgkaaDrK
import Derived.Test.YtpdbohjgmghgkaaHeard
import Derived.Test.YtpdbohjgmghgkaaEnter
import Derived.Test.YtpdbohjgmghgkaaMake
namespace Go.Proofs.Ytpdbohjgmghgkaa.lawkn
open Go.RowKit Go.ChangeShapes Go.WideShapes Go.ChangeAt

set_option maxHeartbeats 8000000 in
theorem walk (l : List Int) {v : Value} {w : World} (h : RSl RByte 1 w 0 w.heap.size l [v]) (w' : World) (hw : w' = w := by rfl) :
    Calls Try.prog 13 #[v] w' fun e w' => e = .returned (.bool true) ∧ Below w.heap.size w w' := by
  subst hw
  obtain ⟨A, c, rfl⟩ := h.form
  have hlen : l.length ≤ maxLen := by obtain ⟨_, h1, h2⟩ := h.len_; omega
  unfold maxLen at hlen
  by_cases hbig : 1048576 < l.length
  · go_enter Try.func13, Try.ntmps13
    go_wp2_with fail
    go_ret
    exact ⟨rfl, Below.refl _ _⟩
  go_enter Try.func13, Try.ntmps13
  go_wp2_with fail
  refine (dDrawKeepAll_any l A _ c _ h).mono ?_
  rintro e w1 ⟨v1, xs, a, b, c9, rfl, o1, l1, g1, hr, bb⟩
  have G1 := Lib.hid g1; clear g1
  have h64 : In64 a ∧ In64 b ∧ In64 c9 := by unfold In64; omega
  obtain ⟨A1, c1, rfl⟩ := o1.form
  have z1 := bb.size
  obtain ⟨r, hR⟩ := KAllR_total xs a b c9
  have HR := Lib.hid hR; clear hR
  have HI := Lib.hid (KAllR_in64 HR.out)
  have HLR := KAllR_len HR.out
  go_wp2_with fail
  have hbw2 : Below w1.heap.size w1 (w1.alloc (.cells #[.int .i64 a, .int .i64 b, .int .i64 c9] 68)) := below_alloc _ _
  have k0 : Blk (w1.alloc (.cells #[.int .i64 a, .int .i64 b, .int .i64 c9] 68)) (w1.heap.size) 68 #[.int .i64 a, .int .i64 b, .int .i64 c9] := by
    have hk := Blk.new w1 68 #[.int .i64 a, .int .i64 b, .int .i64 c9]
    exact hk
  have hsw2 : w1.heap.size + 1 ≤ (w1.alloc (.cells #[.int .i64 a, .int .i64 b, .int .i64 c9] 68)).heap.size := by simp only [World.size_alloc]; omega
  generalize (w1.alloc (.cells #[.int .i64 a, .int .i64 b, .int .i64 c9] 68)) = w2 at *
  have ck0 := k0.cell
  have fk0 := k0.frozen
  replace o1 := o1.below hbw2
  replace bb := below_below bb hbw2
  have s1 := o1.sl G1.out (Nat.le_refl _)
  have hhi : w2.heap.size ≤ w2.heap.size := Nat.le_refl _
  clear o1
  refine (implKeepAll_any xs a b c9 h64 _ w2 _ _ (Nat.le_refl _) s1 r HR.out).mono ?_
  rintro e w3 ⟨vm, rfl, om, b3⟩
  obtain ⟨Am, cm, rfl⟩ := om.form
  replace k0 := blk_keep k0 b3
  replace ck0 := k0.cell
  replace fk0 := k0.frozen
  replace s1 := sl_keep RSt.loc s1 b3 hhi
  replace hhi := Nat.le_trans hhi (b3).size
  replace bb := below_below bb b3
  go_wp2_with fail
  refine (specKeepAll_any xs a b c9 h64 _ w3 _ _ hhi s1 r HR.out).mono ?_
  rintro e w4 ⟨vs, rfl, os, b4⟩
  obtain ⟨As, cs, rfl⟩ := os.form
  replace k0 := blk_keep k0 b4
  replace ck0 := k0.cell
  replace fk0 := k0.frozen
  replace s1 := sl_keep RSt.loc s1 b4 hhi
  replace hhi := Nat.le_trans hhi (b4).size
  try replace om := om.below b4
  replace bb := below_below bb b4
  go_wp2_with fail
  refine (ldInts_any r r _ _ w4 _ _ _ _ (om.sl HI.out (Nat.le_refl _)) (os.sl HI.out (Nat.le_refl _))).mono ?_
  rintro e w5 ⟨rfl, n5, h5⟩
  have b5 : Below w4.heap.size w4 w5 := h5 ▸ below_drewN (Below.refl w4.heap.size w4) n5
  clear h5 os
  replace k0 := blk_keep k0 b5
  replace ck0 := k0.cell
  replace fk0 := k0.frozen
  replace s1 := sl_keep RSt.loc s1 b5 hhi
  replace hhi := Nat.le_trans hhi (b5).size
  try replace om := om.below b5
  replace bb := below_below bb b5
  obtain ⟨q, hq⟩ := tell (stP xs)
  have t0 : decide (r = r) = true := by simp
  go_wp2_with fail
  refine (specStampsOk_any xs _ w5 _ _ hhi s1 q hq).mono ?_
  rintro e w6 ⟨rfl, b6⟩
  replace k0 := blk_keep k0 b6
  replace ck0 := k0.cell
  replace fk0 := k0.frozen
  replace s1 := sl_keep RSt.loc s1 b6 hhi
  replace hhi := Nat.le_trans hhi (b6).size
  try replace om := om.below b6
  replace bb := below_below bb b6
  cases q with
  | false =>
    have HQ := Lib.hid hq; clear hq
    go_wp2_with fail
    refine (specKeepAll_any xs a b c9 h64 _ w6 _ _ hhi s1 r HR.out).mono ?_
    rintro e w7 ⟨vs, rfl, os, b7⟩
    obtain ⟨As, cs, rfl⟩ := os.form
    replace om := om.below b7
    go_wp2_with fail
    refine (ldInts_any r r _ _ w7 _ _ _ _ (om.sl HI.out (Nat.le_refl _)) (os.sl HI.out (Nat.le_refl _))).mono ?_
    rintro e w8 ⟨rfl, n8, h8⟩
    have b8 : Below w7.heap.size w7 w8 := h8 ▸ below_drewN (Below.refl w7.heap.size w7) n8
    clear h8
    go_wp2_with fail
    go_ret
    exact ⟨rfl, below_below (below_below bb b7) b8⟩
  | true =>
    have H2 := Lib.hid (hq.1 rfl); clear hq
    have hrr := HR.out.is H2.out
    have HRR := Lib.hid hrr; clear hrr
    obtain ⟨qa, hqa⟩ := tell (0 < a)
    obtain ⟨qb, hqb⟩ := tell (0 < b)
    obtain ⟨qc, hqc⟩ := tell (0 < c9)
    have u1 : decide (0 < a) = qa := by rw [Bool.eq_iff_iff, hqa]; simp
    have u2 : decide (0 < b) = qb := by rw [Bool.eq_iff_iff, hqb]; simp
    have u3 : decide (0 < c9) = qc := by rw [Bool.eq_iff_iff, hqc]; simp
    have QA := Lib.hid hqa; have QB := Lib.hid hqb; have QC := Lib.hid hqc
    clear hqa hqb hqc
    obtain ⟨Ax, cx, hax, hcx⟩ : ∃ A c, Value.slice A1 xs.length c1 = .slice A xs.length c ∧ xs.length ≤ c := ⟨A1, c1, rfl, by obtain ⟨_, hc, _⟩ := s1.len_; exact hc⟩
    clear hax hcx Ax cx
    by_cases h0 : xs.length = 0
    · have hr0 : r.length = 0 := by omega
      have t1 : (xs.length == 0) = true := beq_iff_eq.2 h0
      have t2 : ((xs.length : Int) == 0) = true := beq_iff_eq.2 (by omega)
      have t3 : (r.length == 0) = true := beq_iff_eq.2 hr0
      have t4 : ((r.length : Int) == 0) = true := beq_iff_eq.2 (by omega)
      cases qa <;> cases qb <;> cases qc
      all_goals
        go_wp2_with fail
        go_ret
        exact ⟨rfl, bb⟩
    · have t1 : (xs.length == 0) = false := beq_eq_false_iff_ne.2 h0
      have t2 : ((xs.length : Int) == 0) = false := beq_eq_false_iff_ne.2 (by omega)
      obtain ⟨k, hk⟩ : ∃ k, xs.length = k + 1 := ⟨xs.length - 1, by omega⟩
      have e1 : (xs.length : Int) - 1 = (k : Int) := by omega
      obtain ⟨x, hx⟩ := some_of_lt (l := xs) (k := k) (by omega)
      obtain ⟨bx, off, rfl, _, _, hx64, hcell, hcell1⟩ := st_at s1 hx
      have hin := in_all (a := a) (b := b) (c := c9) H2.out.1 hx
      rw [← HRR.out] at hin
      have hnew := kA_new (l := xs) (a := a) (b := b) (c := c9) (by omega)
      have hkk : xs.length - 1 = k := by omega
      rw [hkk] at hnew
      have hsome : decide (x.s ∈ r) = (qa || qb || qc) := by
        rw [Bool.eq_iff_iff, decide_eq_true_iff, HRR.out, ← snapAt_get hx, sn_mem H2.out.1 (fun i hi => kA_lt hi) (lt_of_some hx), hnew]
        simp only [Bool.or_eq_true, QA.out, QB.out, QC.out, or_assoc]
      have hemp : qa = false → qb = false → qc = false → r.length = 0 := fun h1 h2 h3 => by
        rw [HRR.out, sn_len, kA_zero]
        · rfl
        · have := QA.out; rw [h1] at this; simp at this; exact this
        · have := QB.out; rw [h2] at this; simp at this; exact this
        · have := QC.out; rw [h3] at this; simp at this; exact this
      have HE := Lib.hid hemp
      have HX := Lib.hid hx
      clear hemp hin hnew hx hk
      have sr := om.sl HI.out (Nat.le_refl _)
      cases qa <;> cases qb <;> cases qc
      case false.false.false =>
        have hr0 := HE.out rfl rfl rfl
        have t3 : (r.length == 0) = true := beq_iff_eq.2 hr0
        have t4 : ((r.length : Int) == 0) = true := beq_iff_eq.2 (by omega)
        clear hr0
        go_wp2_with fail
        refine (ldIn_any r x.s _ _ _ w6 _ _ sr).mono ?_
        rintro e wy ⟨rfl, rfl⟩
        go_wp2_with fail
        go_ret
        exact ⟨rfl, bb⟩
      all_goals
        go_wp2_with fail
        refine (ldIn_any r x.s _ _ _ w6 _ _ sr).mono ?_
        rintro e wy ⟨rfl, rfl⟩
        go_wp2_with fail
        go_ret
        exact ⟨rfl, bb⟩

set_option maxRecDepth 100000 in
theorem lifted (os : Os) (started : os.Started) (H : Type) (enc : TypeId × Value → H) :
    ReturnsInHanded {} Try.checked os 13 .any (Rows.fnKeepNewSpec.pre6 enc Try.prog Try.f13 Rows.fnKeepNewRow.domain false) (Rows.fnKeepNewSpec.post enc Try.prog Try.f13 false true false false) := by
  refine law_lifted own started (by kernel_rfl) Try.func13 laidOut (by kernel_rfl) rfl Try.underlying4 rfl (fun ds hl => ?_)
    (ChangeSpec.witness6 (enc := enc) (C := Try.checked) false ⟨#[], #[.slice none 0 0], []⟩ 8 (by kernel_rfl) (by kernel_rfl) (by kernel_rfl) (by kernel_rfl)) ?_
  · match ds, hl with
    | [_], _ => rfl
  intro W base args ds p hval0 hA hlt hsz hsh
  have hval : ∀ (j : Nat) t v, Try.f13.params[j]? = some t → args[j]? = some v → Value.okWide Try.prog W .any base t v := hval0
  rw [Try.params13] at hA hval
  obtain ⟨v0, d0, rfl, rfl, h0⟩ := trodAll_one hA
  obtain ⟨a0_0, r0⟩ := open_byte_slice (hval 0 30 v0 rfl rfl) h0 (by first | exact hlt | exact fun x hx => hlt x (by simp [hx]))
  exact walk a0_0 r0 W

set_option maxRecDepth 100000 in
theorem factsHold : joinedFacts Try.pinned.checked.prog 13 Try.f13 Rows.fnKeepNewSpec Rows.fnKeepNewRow = true := by
  unfold joinedFacts
  rw [liftsFinal, mayEnter, makeIs]
  kernel_rfl
set_option maxRecDepth 100000 in
theorem proved : Rows.FnKeepNewSaid :=
  OpenClaim.holds_of_wide 13 Try.f13 rfl rfl rfl rfl rfl rfl rfl ⟨rfl, rfl, rfl, rfl, rfl⟩ rfl rfl rfl rfl rfl (by kernel_rfl) Try.func13 factsHold
    (of_decide_eq_true (by kernel_rfl)) (by unfold Func.isWrapper; first | (rw [if_pos (by decide +kernel)]; kernel_rfl) | (rw [if_neg (by decide +kernel)]; exact ⟨rfl, rfl⟩))
    (fun os started H enc _ => lifted os started H enc)
#print axioms proved
end Go.Proofs.Ytpdbohjgmghgkaa.lawkn
