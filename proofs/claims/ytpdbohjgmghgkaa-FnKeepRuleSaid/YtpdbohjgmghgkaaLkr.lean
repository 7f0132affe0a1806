


/- The law FnKeepRule: a rule that keeps more keeps all that a lesser one does. No condition. -/
import Derived.Test.YtpdbohjgmghgkaaLaw
import Derived.Test.YtpdbohjgmghgkaaDrK
import Derived.Test.YtpdbohjgmghgkaaHeard
import Derived.Test.YtpdbohjgmghgkaaEnter
import Derived.Test.YtpdbohjgmghgkaaMake
namespace Go.Proofs.Ytpdbohjgmghgkaa.lawkr
open Go.RowKit Go.ChangeShapes Go.WideShapes Go.ChangeAt

set_option maxHeartbeats 8000000 in
theorem walk (l : List Int) {v : Value} {w : World} (h : RSl RByte 1 w 0 w.heap.size l [v]) (l2 : List Int) {v2 : Value} (h2 : RSl RByte 1 w 0 w.heap.size l2 [v2]) (w' : World) (hw : w' = w := by rfl) :
    Calls Try.prog 14 #[v, v2] w' fun e w' => e = .returned (.bool true) ∧ Below w.heap.size w w' := by
  subst hw
  obtain ⟨A, c, rfl⟩ := h.form
  obtain ⟨A2, c2, rfl⟩ := h2.form
  have hlen : l.length ≤ maxLen := by obtain ⟨_, h1, h2⟩ := h.len_; omega
  have hlen2 : l2.length ≤ maxLen := by obtain ⟨_, h1, h2⟩ := h2.len_; omega
  unfold maxLen at hlen hlen2
  by_cases hbig : 1048576 < l.length
  · go_enter Try.func14, Try.ntmps14
    go_wp2_with fail
    go_ret
    exact ⟨rfl, Below.refl _ _⟩
  by_cases hbig2 : 1048576 < l2.length
  · go_enter Try.func14, Try.ntmps14
    go_wp2_with fail
    go_ret
    exact ⟨rfl, Below.refl _ _⟩
  go_enter Try.func14, Try.ntmps14
  go_wp2_with fail
  refine (dDrawKeepAll_any l A _ c _ h).mono ?_
  rintro e w1 ⟨v1, xs, a, b, c9, rfl, o1, l1, g1, hr, bb⟩
  have G1 := Lib.hid g1; clear g1
  have h64 : In64 a ∧ In64 b ∧ In64 c9 := by unfold In64; omega
  obtain ⟨A1, c1, rfl⟩ := o1.form
  have z1 := bb.size
  obtain ⟨r, hR⟩ := KAllR_total xs a b c9
  have HR := Lib.hid hR; clear hR
  have HI := Lib.hid (KAllR_in64 HR.out)
  have HLR := KAllR_len HR.out
  go_wp2_with fail
  have hbw2 : Below w1.heap.size w1 (w1.alloc (.cells #[.int .i64 a, .int .i64 b, .int .i64 c9] 68)) := below_alloc _ _
  have k0 : Blk (w1.alloc (.cells #[.int .i64 a, .int .i64 b, .int .i64 c9] 68)) (w1.heap.size) 68 #[.int .i64 a, .int .i64 b, .int .i64 c9] := by
    have hk := Blk.new w1 68 #[.int .i64 a, .int .i64 b, .int .i64 c9]
    exact hk
  have hsw2 : w1.heap.size + 1 ≤ (w1.alloc (.cells #[.int .i64 a, .int .i64 b, .int .i64 c9] 68)).heap.size := by simp only [World.size_alloc]; omega
  generalize (w1.alloc (.cells #[.int .i64 a, .int .i64 b, .int .i64 c9] 68)) = w2 at *
  have ck0 := k0.cell
  have fk0 := k0.frozen
  replace o1 := o1.below hbw2
  replace bb := below_below bb hbw2
  have s1 := o1.sl G1.out (Nat.le_refl _)
  have hhi : w2.heap.size ≤ w2.heap.size := Nat.le_refl _
  clear o1
  refine (implKeepAll_any xs a b c9 h64 _ w2 _ _ (Nat.le_refl _) s1 r HR.out).mono ?_
  rintro e w3 ⟨vm, rfl, om, b3⟩
  obtain ⟨Am, cm, rfl⟩ := om.form
  replace k0 := blk_keep k0 b3
  replace ck0 := k0.cell
  replace fk0 := k0.frozen
  replace s1 := sl_keep RSt.loc s1 b3 hhi
  replace hhi := Nat.le_trans hhi (b3).size
  replace bb := below_below bb b3
  go_wp2_with fail
  refine (specKeepAll_any xs a b c9 h64 _ w3 _ _ hhi s1 r HR.out).mono ?_
  rintro e w4 ⟨vs, rfl, os, b4⟩
  obtain ⟨As, cs, rfl⟩ := os.form
  replace k0 := blk_keep k0 b4
  replace ck0 := k0.cell
  replace fk0 := k0.frozen
  replace s1 := sl_keep RSt.loc s1 b4 hhi
  replace hhi := Nat.le_trans hhi (b4).size
  try replace om := om.below b4
  replace bb := below_below bb b4
  go_wp2_with fail
  refine (ldInts_any r r _ _ w4 _ _ _ _ (om.sl HI.out (Nat.le_refl _)) (os.sl HI.out (Nat.le_refl _))).mono ?_
  rintro e w5 ⟨rfl, n5, h5⟩
  have b5 : Below w4.heap.size w4 w5 := h5 ▸ below_drewN (Below.refl w4.heap.size w4) n5
  clear h5 os
  replace k0 := blk_keep k0 b5
  replace ck0 := k0.cell
  replace fk0 := k0.frozen
  replace s1 := sl_keep RSt.loc s1 b5 hhi
  replace hhi := Nat.le_trans hhi (b5).size
  try replace om := om.below b5
  replace bb := below_below bb b5
  obtain ⟨q, hq⟩ := tell (stP xs)
  have t0 : decide (r = r) = true := by simp
  go_wp2_with fail
  refine (specStampsOk_any xs _ w5 _ _ hhi s1 q hq).mono ?_
  rintro e w6 ⟨rfl, b6⟩
  replace k0 := blk_keep k0 b6
  replace ck0 := k0.cell
  replace fk0 := k0.frozen
  replace s1 := sl_keep RSt.loc s1 b6 hhi
  replace hhi := Nat.le_trans hhi (b6).size
  try replace om := om.below b6
  replace bb := below_below bb b6
  cases q with
  | false =>
    have HQ := Lib.hid hq; clear hq
    go_wp2_with fail
    refine (specKeepAll_any xs a b c9 h64 _ w6 _ _ hhi s1 r HR.out).mono ?_
    rintro e w7 ⟨vs, rfl, os, b7⟩
    obtain ⟨As, cs, rfl⟩ := os.form
    replace om := om.below b7
    go_wp2_with fail
    refine (ldInts_any r r _ _ w7 _ _ _ _ (om.sl HI.out (Nat.le_refl _)) (os.sl HI.out (Nat.le_refl _))).mono ?_
    rintro e w8 ⟨rfl, n8, h8⟩
    have b8 : Below w7.heap.size w7 w8 := h8 ▸ below_drewN (Below.refl w7.heap.size w7) n8
    clear h8
    go_wp2_with fail
    go_ret
    exact ⟨rfl, below_below (below_below bb b7) b8⟩
  | true =>
    have H2 := Lib.hid (hq.1 rfl); clear hq
    obtain ⟨n1, hn1⟩ : ∃ n : Nat, n = l2.length % 2 := ⟨_, rfl⟩
    obtain ⟨n2, hn2⟩ : ∃ n : Nat, n = l2.length / 2 % 2 := ⟨_, rfl⟩
    obtain ⟨n4, hn4⟩ : ∃ n : Nat, n = l2.length / 4 % 2 := ⟨_, rfl⟩
    have u1 : ((l2.length : Int) % 2) = (n1 : Int) := by omega
    have u2 : ((l2.length : Int) / 2 % 2) = (n2 : Int) := by omega
    have u4 : ((l2.length : Int) / 4 % 2) = (n4 : Int) := by omega
    have hb1 : n1 ≤ 1 := by omega
    have hb2 : n2 ≤ 1 := by omega
    have hb4 : n4 ≤ 1 := by omega
    clear hn1 hn2 hn4
    obtain ⟨r2, hr2⟩ := KAllR_total xs (a + n1) (b + n2) (c9 + n4)
    have hle : r.length ≤ r2.length := by
      rw [HR.out.is H2.out, hr2.is H2.out, sn_len, sn_len]
      exact kA_more_len (by omega) (by omega) (by omega)
    have hin : ∀ y ∈ r, y ∈ r2 := fun y hy => by
      rw [HR.out.is H2.out] at hy
      rw [hr2.is H2.out]
      obtain ⟨i, hi, rfl⟩ := List.mem_map.1 hy
      exact List.mem_map.2 ⟨i, kA_more (by omega) (by omega) (by omega) hi, rfl⟩
    have HR2 := Lib.hid hr2; clear hr2
    have HIN := Lib.hid hin; clear hin
    go_wp2_with fail
    refine (implKeepAll_any xs (a + n1) (b + n2) (c9 + n4) (by unfold In64; omega) _ w6 _ _ hhi s1 r2 HR2.out).mono ?_
    rintro e w7 ⟨v7, rfl, p1, b7⟩
    obtain ⟨A7, c7, rfl⟩ := p1.form
    replace k0 := blk_keep k0 b7
    replace ck0 := k0.cell
    replace fk0 := k0.frozen
    replace s1 := sl_keep RSt.loc s1 b7 hhi
    replace hhi := Nat.le_trans hhi (b7).size
    try replace om := om.below b7
    replace bb := below_below bb b7
    have HI2 := Lib.hid (KAllR_in64 HR2.out)
    have HL2 := KAllR_len HR2.out
    have q1 := p1.sl HI2.out (Nat.le_refl _)
    have sr := om.sl HI.out (Nat.le_refl _)
    clear p1
    go_wp2_with fail
    go_loopw [9] (fun ii wr => ∃ k : Nat, k ≤ r.length ∧ ii = .int .i64 k ∧ wr = w7) (fun ii _ => r.length - (intOf ii).toNat)
    case atStart => exact ⟨0, Nat.zero_le _, rfl, rfl⟩
    case round =>
      obtain ⟨k, hk, rfl, rfl⟩ := hrel
      by_cases hlt : k < r.length
      · obtain ⟨x, hxk⟩ := some_of_lt hlt
        obtain ⟨b1, off, rfl, _, _, hx64, hcell⟩ := sr.ints_at hxk
        have u5 : decide (x ∈ r2) = true := decide_eq_true (HIN.out x (List.mem_of_getElem? hxk))
        clear hxk
        go_wp2_with fail
        refine (ldIn_any r2 x _ _ _ _ _ _ q1).mono ?_
        rintro e wy ⟨rfl, rfl⟩
        go_wp2_with fail
        go_roundw
        case rel => exact ⟨k + 1, by omega, by go_num, trivial⟩
        case measure => simp [intOf]; omega
      · obtain rfl : k = r.length := by omega
        have u6 : decide (r.length ≤ r2.length) = true := decide_eq_true hle
        have u7 : decide ((r.length : Int) ≤ (r2.length : Int)) = true := decide_eq_true (by omega)
        go_wp2_with fail
        go_ret
        exact ⟨rfl, bb⟩

set_option maxRecDepth 100000 in
theorem lifted (os : Os) (started : os.Started) (H : Type) (enc : TypeId × Value → H) :
    ReturnsInHanded {} Try.checked os 14 .any (Rows.fnKeepRuleSpec.pre6 enc Try.prog Try.f14 Rows.fnKeepRuleRow.domain false) (Rows.fnKeepRuleSpec.post enc Try.prog Try.f14 false true false false) := by
  refine law_lifted own started (by kernel_rfl) Try.func14 laidOut (by kernel_rfl) rfl Try.underlying4 rfl (fun ds hl => ?_)
    (ChangeSpec.witness6 (enc := enc) (C := Try.checked) false ⟨#[], #[.slice none 0 0, .slice none 0 0], []⟩ 8 (by kernel_rfl) (by kernel_rfl) (by kernel_rfl) (by kernel_rfl)) ?_
  · match ds, hl with
    | [_, _], _ => rfl
  intro W base args ds p hval0 hA hlt hsz hsh
  have hval : ∀ (j : Nat) t v, Try.f14.params[j]? = some t → args[j]? = some v → Value.okWide Try.prog W .any base t v := hval0
  rw [Try.params14] at hA hval
  obtain ⟨v0, v1, d0, d1, p0, p1, rfl, rfl, rfl, h0, h1⟩ := trodAll_two hA
  obtain ⟨a0_0, r0⟩ := open_byte_slice (hval 0 30 v0 rfl rfl) h0 (by first | exact hlt | exact fun x hx => hlt x (by simp [hx]))
  obtain ⟨a1_0, r1⟩ := open_byte_slice (hval 1 30 v1 rfl rfl) h1 (by first | exact hlt | exact fun x hx => hlt x (by simp [hx]))
  exact walk a0_0 r0 a1_0 r1 W

set_option maxRecDepth 100000 in
theorem factsHold : joinedFacts Try.pinned.checked.prog 14 Try.f14 Rows.fnKeepRuleSpec Rows.fnKeepRuleRow = true := by
  unfold joinedFacts
  rw [liftsFinal, mayEnter, makeIs]
  kernel_rfl
set_option maxRecDepth 100000 in
theorem proved : Rows.FnKeepRuleSaid :=
  OpenClaim.holds_of_wide 14 Try.f14 rfl rfl rfl rfl rfl rfl rfl ⟨rfl, rfl, rfl, rfl, rfl⟩ rfl rfl rfl rfl rfl (by kernel_rfl) Try.func14 factsHold
    (of_decide_eq_true (by kernel_rfl)) (by unfold Func.isWrapper; first | (rw [if_pos (by decide +kernel)]; kernel_rfl) | (rw [if_neg (by decide +kernel)]; exact ⟨rfl, rfl⟩))
    (fun os started H enc _ => lifted os started H enc)
#print axioms proved
end Go.Proofs.Ytpdbohjgmghgkaa.lawkr
