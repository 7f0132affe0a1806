


/- The law FnKeepAll: what any part of a rule keeps is kept. No condition. -/
import Derived.Test.YtpdbohjgmghgkaaLaw
import Derived.Test.YtpdbohjgmghgkaaDrK
import Derived.Test.YtpdbohjgmghgkaaHeard
import Derived.Test.YtpdbohjgmghgkaaEnter
import Derived.Test.YtpdbohjgmghgkaaMake
namespace Go.Proofs.Ytpdbohjgmghgkaa.lawkal
open Go.RowKit Go.ChangeShapes Go.WideShapes Go.ChangeAt

set_option maxRecDepth 8000 in
set_option maxHeartbeats 8000000 in
theorem walk (l : List Int) {v : Value} {w : World} (h : RSl RByte 1 w 0 w.heap.size l [v]) (w' : World) (hw : w' = w := by rfl) :
    Calls Try.prog 12 #[v] w' fun e w' => e = .returned (.bool true) ∧ Below w.heap.size w w' := by
  subst hw
  obtain ⟨A, c, rfl⟩ := h.form
  have hlen : l.length ≤ maxLen := by obtain ⟨_, h1, h2⟩ := h.len_; omega
  unfold maxLen at hlen
  by_cases hbig : 1048576 < l.length
  · go_enter Try.func12, Try.ntmps12
    go_wp2_with fail
    go_ret
    exact ⟨rfl, Below.refl _ _⟩
  go_enter Try.func12, Try.ntmps12
  go_wp2_with fail
  refine (dDrawKeepAll_any l A _ c _ h).mono ?_
  rintro e w1 ⟨v1, xs, a, b, c9, rfl, o1, l1, g1, hr, bb⟩
  have G1 := Lib.hid g1; clear g1
  have h64 : In64 a ∧ In64 b ∧ In64 c9 := by unfold In64; omega
  obtain ⟨A1, c1, rfl⟩ := o1.form
  have z1 := bb.size
  obtain ⟨r, hR⟩ := KAllR_total xs a b c9
  have HR := Lib.hid hR; clear hR
  have HI := Lib.hid (KAllR_in64 HR.out)
  have HLR := KAllR_len HR.out
  go_wp2_with fail
  have hbw2 : Below w1.heap.size w1 (w1.alloc (.cells #[.int .i64 a, .int .i64 b, .int .i64 c9] 68)) := below_alloc _ _
  have k0 : Blk (w1.alloc (.cells #[.int .i64 a, .int .i64 b, .int .i64 c9] 68)) (w1.heap.size) 68 #[.int .i64 a, .int .i64 b, .int .i64 c9] := by
    have hk := Blk.new w1 68 #[.int .i64 a, .int .i64 b, .int .i64 c9]
    exact hk
  have hsw2 : w1.heap.size + 1 ≤ (w1.alloc (.cells #[.int .i64 a, .int .i64 b, .int .i64 c9] 68)).heap.size := by simp only [World.size_alloc]; omega
  generalize (w1.alloc (.cells #[.int .i64 a, .int .i64 b, .int .i64 c9] 68)) = w2 at *
  have ck0 := k0.cell
  have fk0 := k0.frozen
  replace o1 := o1.below hbw2
  replace bb := below_below bb hbw2
  have s1 := o1.sl G1.out (Nat.le_refl _)
  have hhi : w2.heap.size ≤ w2.heap.size := Nat.le_refl _
  clear o1
  refine (implKeepAll_any xs a b c9 h64 _ w2 _ _ (Nat.le_refl _) s1 r HR.out).mono ?_
  rintro e w3 ⟨vm, rfl, om, b3⟩
  obtain ⟨Am, cm, rfl⟩ := om.form
  replace k0 := blk_keep k0 b3
  replace ck0 := k0.cell
  replace fk0 := k0.frozen
  replace s1 := sl_keep RSt.loc s1 b3 hhi
  replace hhi := Nat.le_trans hhi (b3).size
  replace bb := below_below bb b3
  go_wp2_with fail
  refine (specKeepAll_any xs a b c9 h64 _ w3 _ _ hhi s1 r HR.out).mono ?_
  rintro e w4 ⟨vs, rfl, os, b4⟩
  obtain ⟨As, cs, rfl⟩ := os.form
  replace k0 := blk_keep k0 b4
  replace ck0 := k0.cell
  replace fk0 := k0.frozen
  replace s1 := sl_keep RSt.loc s1 b4 hhi
  replace hhi := Nat.le_trans hhi (b4).size
  try replace om := om.below b4
  replace bb := below_below bb b4
  go_wp2_with fail
  refine (ldInts_any r r _ _ w4 _ _ _ _ (om.sl HI.out (Nat.le_refl _)) (os.sl HI.out (Nat.le_refl _))).mono ?_
  rintro e w5 ⟨rfl, n5, h5⟩
  have b5 : Below w4.heap.size w4 w5 := h5 ▸ below_drewN (Below.refl w4.heap.size w4) n5
  clear h5 os
  replace k0 := blk_keep k0 b5
  replace ck0 := k0.cell
  replace fk0 := k0.frozen
  replace s1 := sl_keep RSt.loc s1 b5 hhi
  replace hhi := Nat.le_trans hhi (b5).size
  try replace om := om.below b5
  replace bb := below_below bb b5
  obtain ⟨q, hq⟩ := tell (stP xs)
  have t0 : decide (r = r) = true := by simp
  go_wp2_with fail
  refine (specStampsOk_any xs _ w5 _ _ hhi s1 q hq).mono ?_
  rintro e w6 ⟨rfl, b6⟩
  replace k0 := blk_keep k0 b6
  replace ck0 := k0.cell
  replace fk0 := k0.frozen
  replace s1 := sl_keep RSt.loc s1 b6 hhi
  replace hhi := Nat.le_trans hhi (b6).size
  try replace om := om.below b6
  replace bb := below_below bb b6
  cases q with
  | false =>
    have HQ := Lib.hid hq; clear hq
    go_wp2_with fail
    refine (specKeepAll_any xs a b c9 h64 _ w6 _ _ hhi s1 r HR.out).mono ?_
    rintro e w7 ⟨vs, rfl, os, b7⟩
    obtain ⟨As, cs, rfl⟩ := os.form
    replace om := om.below b7
    go_wp2_with fail
    refine (ldInts_any r r _ _ w7 _ _ _ _ (om.sl HI.out (Nat.le_refl _)) (os.sl HI.out (Nat.le_refl _))).mono ?_
    rintro e w8 ⟨rfl, n8, h8⟩
    have b8 : Below w7.heap.size w7 w8 := h8 ▸ below_drewN (Below.refl w7.heap.size w7) n8
    clear h8
    go_wp2_with fail
    go_ret
    exact ⟨rfl, below_below (below_below bb b7) b8⟩
  | true =>
    have H2 := Lib.hid (hq.1 rfl); clear hq
    have hrr := HR.out.is H2.out
    have HRR := Lib.hid hrr; clear hrr
    obtain ⟨r1, hr1⟩ : ∃ r, r = sn xs (kD xs 0 a) := ⟨_, rfl⟩
    have R1 := Lib.hid hr1; clear hr1
    go_wp2_with fail
    refine (implKeepLast_any xs a h64.1 _ w6 _ _ hhi s1 r1 (.inl ⟨H2.out, R1.out⟩)).mono ?_
    rintro e w7 ⟨v7, rfl, p1, b7⟩
    obtain ⟨A7, c7, rfl⟩ := p1.form
    replace k0 := blk_keep k0 b7
    replace ck0 := k0.cell
    replace fk0 := k0.frozen
    replace s1 := sl_keep RSt.loc s1 b7 hhi
    replace hhi := Nat.le_trans hhi (b7).size
    try replace om := om.below b7
    replace bb := below_below bb b7
    obtain ⟨r2, hr2⟩ : ∃ r, r = sn xs (kD xs 1 b) := ⟨_, rfl⟩
    have R2 := Lib.hid hr2; clear hr2
    go_wp2_with fail
    refine (implKeepDays_any xs 1 b (.inl rfl) h64.2.1 _ w7 _ _ hhi s1 r2 (.inl ⟨H2.out, R2.out⟩)).mono ?_
    rintro e w8 ⟨v8, rfl, p2, b8⟩
    obtain ⟨A8, c8, rfl⟩ := p2.form
    replace k0 := blk_keep k0 b8
    replace ck0 := k0.cell
    replace fk0 := k0.frozen
    replace s1 := sl_keep RSt.loc s1 b8 hhi
    replace hhi := Nat.le_trans hhi (b8).size
    try replace om := om.below b8
    replace bb := below_below bb b8
    replace p1 := p1.below b8
    obtain ⟨r3, hr3⟩ : ∃ r, r = sn xs (kD xs 7 c9) := ⟨_, rfl⟩
    have R3 := Lib.hid hr3; clear hr3
    go_wp2_with fail
    refine (implKeepDays_any xs 7 c9 (.inr rfl) h64.2.2 _ w8 _ _ hhi s1 r3 (.inl ⟨H2.out, R3.out⟩)).mono ?_
    rintro e w9 ⟨v9, rfl, p3, b9⟩
    obtain ⟨A9, c9', rfl⟩ := p3.form
    replace k0 := blk_keep k0 b9
    replace ck0 := k0.cell
    replace fk0 := k0.frozen
    replace s1 := sl_keep RSt.loc s1 b9 hhi
    replace hhi := Nat.le_trans hhi (b9).size
    try replace om := om.below b9
    replace bb := below_below bb b9
    replace p1 := p1.below b9
    replace p2 := p2.below b9
    have q1 := p1.sl (R1.out ▸ sn_in64 H2.out.1.in64 _) (Nat.le_refl _)
    have q2 := p2.sl (R2.out ▸ sn_in64 H2.out.1.in64 _) (Nat.le_refl _)
    have q3 := p3.sl (R3.out ▸ sn_in64 H2.out.1.in64 _) (Nat.le_refl _)
    have sr := om.sl HI.out (Nat.le_refl _)
    clear p1 p2 p3
    go_wp2_with fail
    go_loopw [9, 10, 11] (fun nn ii _ wr => ∃ k n : Nat, k ≤ xs.length ∧ ii = .int .i64 k ∧ nn = .int .i64 n ∧ n = (kAt xs (inAll xs a b c9) k).length ∧ ∃ d, wr = w9.drewN d) (fun _ ii _ _ => xs.length - (intOf ii).toNat)
    case atStart => exact ⟨0, 0, Nat.zero_le _, rfl, rfl, rfl, 0, rfl⟩
    case round =>
      obtain ⟨k, n, hk, rfl, rfl, hn, d, rfl⟩ := hrel
      have HN := Lib.hid hn
      by_cases hlt : k < xs.length
      · obtain ⟨x, hxk⟩ := some_of_lt hlt
        obtain ⟨b1, off, rfl, _, _, hx64, hcell, hcell1⟩ := st_at s1 hxk
        have e1 := in_kept H2.out.1 hxk R1.out
        have e2 := in_kept H2.out.1 hxk R2.out
        have e3 := in_kept H2.out.1 hxk R3.out
        have e4 := in_all (a := a) (b := b) (c := c9) H2.out.1 hxk
        rw [← HRR.out] at e4
        have hin : decide (x.s ∈ r) = (decide (x.s ∈ r1) || decide (x.s ∈ r2) || decide (x.s ∈ r3)) := by rw [e1, e2, e3, e4]; rfl
        have hstep : (kAt xs (inAll xs a b c9) (k + 1)).length = n + if decide (x.s ∈ r) then 1 else 0 := by
          have := congrArg List.length (kAt_step (p := inAll xs a b c9) hxk)
          rw [sn_len, List.length_append, sn_len, ← hn, ← e4] at this
          rw [this]
          cases decide (x.s ∈ r) <;> rfl
        have hat : decide (x.s ∈ r) = true → r[n]? = some x.s := fun he => by
          have h1 : kA xs a b c9 = kAt xs (inAll xs a b c9) (k + 1) ++ (List.range' (k + 1) (xs.length - (k + 1))).filter (inAll xs a b c9) := by
            unfold kA kAt
            rw [← List.filter_append]
            congr 1
            rw [List.range_eq_range', List.range_eq_range']
            have h1 := List.range'_append_1 (s := 0) (m := k + 1) (n := xs.length - (k + 1))
            rw [Nat.zero_add] at h1
            rw [h1]
            congr 1; omega
          have h2 := kAt_step (p := inAll xs a b c9) hxk
          rw [← e4, if_pos he] at h2
          rw [HRR.out, h1]
          unfold sn at h2 ⊢
          rw [List.map_append, h2, List.append_assoc, List.getElem?_append_right (by rw [List.length_map, hn]; exact Nat.le_refl _), List.length_map, hn, Nat.sub_self]
          rfl
        have HIN := Lib.hid hin
        have HSTEP := Lib.hid hstep
        clear e1 e2 e3 e4 hin hstep hn
        have HAT := Lib.hid hat; clear hat
        go_wp2_with fail
        refine (ldIn_any r1 x.s _ _ _ (w9.drewN d) _ _ q1).mono ?_
        rintro e wy ⟨rfl, rfl⟩
        by_cases g1 : x.s ∈ r1
        · have u1 : decide (x.s ∈ r1) = true := decide_eq_true g1
          have u4 : decide (x.s ∈ r) = true := by rw [HIN.out]; simp [g1]
          have hnx := HSTEP.out
          rw [if_pos u4] at hnx
          have HNX := Lib.hid hnx; clear hnx HSTEP g1
          try clear g2
          try clear g3
          have hrn := HAT.out u4
          have hnlt := lt_of_some hrn
          obtain ⟨br, offr, hAm, _, _, _, hcr⟩ := sr.ints_at hrn
          have HRN := Lib.hid hrn; clear hrn
          subst hAm
          have u5 : decide ((r.length : Int) ≤ (n : Int)) = false := decide_eq_false (by omega)
          have u6 : decide (r.length ≤ n) = false := decide_eq_false (by omega)
          go_wp2_with fail
          refine (ldIn_any r x.s _ _ _ (w9.drewN d) _ _ sr).mono ?_
          rintro e wy ⟨rfl, rfl⟩
          go_wp2_with fail
          go_quiet (fail)
          go_wp2_with fail
          go_roundw
          case rel => exact ⟨k + 1, n + 1, by omega, by go_num, by go_num, HNX.out.symm, _, rfl⟩
          case measure => simp [intOf]; omega
        · have u1 : decide (x.s ∈ r1) = false := decide_eq_false g1
          go_wp2_with fail
          refine (ldIn_any r2 x.s _ _ _ (w9.drewN d) _ _ q2).mono ?_
          rintro e wy ⟨rfl, rfl⟩
          by_cases g2 : x.s ∈ r2
          · have u2 : decide (x.s ∈ r2) = true := decide_eq_true g2
            have u4 : decide (x.s ∈ r) = true := by rw [HIN.out]; simp [g2]
            have hnx := HSTEP.out
            rw [if_pos u4] at hnx
            have HNX := Lib.hid hnx; clear hnx HSTEP g1
            try clear g2
            try clear g3
            have hrn := HAT.out u4
            have hnlt := lt_of_some hrn
            obtain ⟨br, offr, hAm, _, _, _, hcr⟩ := sr.ints_at hrn
            have HRN := Lib.hid hrn; clear hrn
            subst hAm
            have u5 : decide ((r.length : Int) ≤ (n : Int)) = false := decide_eq_false (by omega)
            have u6 : decide (r.length ≤ n) = false := decide_eq_false (by omega)
            go_wp2_with fail
            refine (ldIn_any r x.s _ _ _ (w9.drewN d) _ _ sr).mono ?_
            rintro e wy ⟨rfl, rfl⟩
            go_wp2_with fail
            go_quiet (fail)
            go_wp2_with fail
            go_roundw
            case rel => exact ⟨k + 1, n + 1, by omega, by go_num, by go_num, HNX.out.symm, _, rfl⟩
            case measure => simp [intOf]; omega
          · have u2 : decide (x.s ∈ r2) = false := decide_eq_false g2
            go_wp2_with fail
            refine (ldIn_any r3 x.s _ _ _ (w9.drewN d) _ _ q3).mono ?_
            rintro e wy ⟨rfl, rfl⟩
            by_cases g3 : x.s ∈ r3
            · have u3 : decide (x.s ∈ r3) = true := decide_eq_true g3
              have u4 : decide (x.s ∈ r) = true := by rw [HIN.out]; simp [g3]
              have hnx := HSTEP.out
              rw [if_pos u4] at hnx
              have HNX := Lib.hid hnx; clear hnx HSTEP g1
              try clear g2
              try clear g3
              have hrn := HAT.out u4
              have hnlt := lt_of_some hrn
              obtain ⟨br, offr, hAm, _, _, _, hcr⟩ := sr.ints_at hrn
              have HRN := Lib.hid hrn; clear hrn
              subst hAm
              have u5 : decide ((r.length : Int) ≤ (n : Int)) = false := decide_eq_false (by omega)
              have u6 : decide (r.length ≤ n) = false := decide_eq_false (by omega)
              go_wp2_with fail
              refine (ldIn_any r x.s _ _ _ (w9.drewN d) _ _ sr).mono ?_
              rintro e wy ⟨rfl, rfl⟩
              go_wp2_with fail
              go_quiet (fail)
              go_wp2_with fail
              go_roundw
              case rel => exact ⟨k + 1, n + 1, by omega, by go_num, by go_num, HNX.out.symm, _, rfl⟩
              case measure => simp [intOf]; omega
            · have u3 : decide (x.s ∈ r3) = false := decide_eq_false g3
              have u4 : decide (x.s ∈ r) = false := by rw [HIN.out]; simp [g1, g2, g3]
              have hnx := HSTEP.out
              rw [if_neg (by rw [u4]; simp), Nat.add_zero] at hnx
              have HNX := Lib.hid hnx; clear hnx HSTEP g1 g2 g3
              go_wp2_with fail
              refine (ldIn_any r x.s _ _ _ (w9.drewN d) _ _ sr).mono ?_
              rintro e wy ⟨rfl, rfl⟩
              go_wp2_with fail
              go_roundw
              case rel => exact ⟨k + 1, n, by omega, by go_num, by go_num, HNX.out.symm, d, rfl⟩
              case measure => simp [intOf]; omega
      · obtain rfl : k = xs.length := by omega
        have hnr : n = r.length := by rw [HRR.out, sn_len]; exact hn
        have u1 : ((n : Int) == (r.length : Int)) = true := beq_iff_eq.2 (by omega)
        clear hn
        go_wp2_with fail
        go_ret
        exact ⟨rfl, below_drewN bb d⟩

set_option maxRecDepth 100000 in
theorem lifted (os : Os) (started : os.Started) (H : Type) (enc : TypeId × Value → H) :
    ReturnsInHanded {} Try.checked os 12 .any (Rows.fnKeepAllSpec.pre6 enc Try.prog Try.f12 Rows.fnKeepAllRow.domain false) (Rows.fnKeepAllSpec.post enc Try.prog Try.f12 false true false false) := by
  refine law_lifted own started (by kernel_rfl) Try.func12 laidOut (by kernel_rfl) rfl Try.underlying4 rfl (fun ds hl => ?_)
    (ChangeSpec.witness6 (enc := enc) (C := Try.checked) false ⟨#[], #[.slice none 0 0], []⟩ 8 (by kernel_rfl) (by kernel_rfl) (by kernel_rfl) (by kernel_rfl)) ?_
  · match ds, hl with
    | [_], _ => rfl
  intro W base args ds p hval0 hA hlt hsz hsh
  have hval : ∀ (j : Nat) t v, Try.f12.params[j]? = some t → args[j]? = some v → Value.okWide Try.prog W .any base t v := hval0
  rw [Try.params12] at hA hval
  obtain ⟨v0, d0, rfl, rfl, h0⟩ := trodAll_one hA
  obtain ⟨a0_0, r0⟩ := open_byte_slice (hval 0 30 v0 rfl rfl) h0 (by first | exact hlt | exact fun x hx => hlt x (by simp [hx]))
  exact walk a0_0 r0 W

set_option maxRecDepth 100000 in
theorem factsHold : joinedFacts Try.pinned.checked.prog 12 Try.f12 Rows.fnKeepAllSpec Rows.fnKeepAllRow = true := by
  unfold joinedFacts
  rw [liftsFinal, mayEnter, makeIs]
  kernel_rfl
set_option maxRecDepth 100000 in
theorem proved : Rows.FnKeepAllSaid :=
  OpenClaim.holds_of_wide 12 Try.f12 rfl rfl rfl rfl rfl rfl rfl ⟨rfl, rfl, rfl, rfl, rfl⟩ rfl rfl rfl rfl rfl (by kernel_rfl) Try.func12 factsHold
    (of_decide_eq_true (by kernel_rfl)) (by unfold Func.isWrapper; first | (rw [if_pos (by decide +kernel)]; kernel_rfl) | (rw [if_neg (by decide +kernel)]; exact ⟨rfl, rfl⟩))
    (fun os started H enc _ => lifted os started H enc)
#print axioms proved
end Go.Proofs.Ytpdbohjgmghgkaa.lawkal
