


/- The law FnKeepAgain: what is kept is kept again. No condition. -/
import Derived.Test.YtpdbohjgmghgkaaLaw
import Derived.Test.YtpdbohjgmghgkaaDrK
import Derived.Test.YtpdbohjgmghgkaaHeard
import Derived.Test.YtpdbohjgmghgkaaEnter
import Derived.Test.YtpdbohjgmghgkaaMake
namespace Go.Proofs.Ytpdbohjgmghgkaa.lawka
open Go.RowKit Go.ChangeShapes Go.WideShapes Go.ChangeAt

set_option maxHeartbeats 8000000 in
theorem walk (l : List Int) {v : Value} {w : World} (h : RSl RByte 1 w 0 w.heap.size l [v]) (w' : World) (hw : w' = w := by rfl) :
    Calls Try.prog 11 #[v] w' fun e w' => e = .returned (.bool true) ∧ Below w.heap.size w w' := by
  subst hw
  obtain ⟨A, c, rfl⟩ := h.form
  have hlen : l.length ≤ maxLen := by obtain ⟨_, h1, h2⟩ := h.len_; omega
  unfold maxLen at hlen
  by_cases hbig : 1048576 < l.length
  · go_enter Try.func11, Try.ntmps11
    go_wp2_with fail
    go_ret
    exact ⟨rfl, Below.refl _ _⟩
  go_enter Try.func11, Try.ntmps11
  go_wp2_with fail
  refine (dDrawKeepAll_any l A _ c _ h).mono ?_
  rintro e w1 ⟨v1, xs, a, b, c9, rfl, o1, l1, g1, hr, bb⟩
  have G1 := Lib.hid g1; clear g1
  have h64 : In64 a ∧ In64 b ∧ In64 c9 := by unfold In64; omega
  obtain ⟨A1, c1, rfl⟩ := o1.form
  have z1 := bb.size
  obtain ⟨r, hR⟩ := KAllR_total xs a b c9
  have HR := Lib.hid hR; clear hR
  have HI := Lib.hid (KAllR_in64 HR.out)
  have HLR := KAllR_len HR.out
  go_wp2_with fail
  have hbw2 : Below w1.heap.size w1 (w1.alloc (.cells #[.int .i64 a, .int .i64 b, .int .i64 c9] 68)) := below_alloc _ _
  have k0 : Blk (w1.alloc (.cells #[.int .i64 a, .int .i64 b, .int .i64 c9] 68)) (w1.heap.size) 68 #[.int .i64 a, .int .i64 b, .int .i64 c9] := by
    have hk := Blk.new w1 68 #[.int .i64 a, .int .i64 b, .int .i64 c9]
    exact hk
  have hsw2 : w1.heap.size + 1 ≤ (w1.alloc (.cells #[.int .i64 a, .int .i64 b, .int .i64 c9] 68)).heap.size := by simp only [World.size_alloc]; omega
  generalize (w1.alloc (.cells #[.int .i64 a, .int .i64 b, .int .i64 c9] 68)) = w2 at *
  have ck0 := k0.cell
  have fk0 := k0.frozen
  replace o1 := o1.below hbw2
  replace bb := below_below bb hbw2
  have s1 := o1.sl G1.out (Nat.le_refl _)
  have hhi : w2.heap.size ≤ w2.heap.size := Nat.le_refl _
  clear o1
  refine (implKeepAll_any xs a b c9 h64 _ w2 _ _ (Nat.le_refl _) s1 r HR.out).mono ?_
  rintro e w3 ⟨vm, rfl, om, b3⟩
  obtain ⟨Am, cm, rfl⟩ := om.form
  replace k0 := blk_keep k0 b3
  replace ck0 := k0.cell
  replace fk0 := k0.frozen
  replace s1 := sl_keep RSt.loc s1 b3 hhi
  replace hhi := Nat.le_trans hhi (b3).size
  replace bb := below_below bb b3
  go_wp2_with fail
  refine (specKeepAll_any xs a b c9 h64 _ w3 _ _ hhi s1 r HR.out).mono ?_
  rintro e w4 ⟨vs, rfl, os, b4⟩
  obtain ⟨As, cs, rfl⟩ := os.form
  replace k0 := blk_keep k0 b4
  replace ck0 := k0.cell
  replace fk0 := k0.frozen
  replace s1 := sl_keep RSt.loc s1 b4 hhi
  replace hhi := Nat.le_trans hhi (b4).size
  try replace om := om.below b4
  replace bb := below_below bb b4
  go_wp2_with fail
  refine (ldInts_any r r _ _ w4 _ _ _ _ (om.sl HI.out (Nat.le_refl _)) (os.sl HI.out (Nat.le_refl _))).mono ?_
  rintro e w5 ⟨rfl, n5, h5⟩
  have b5 : Below w4.heap.size w4 w5 := h5 ▸ below_drewN (Below.refl w4.heap.size w4) n5
  clear h5 os
  replace k0 := blk_keep k0 b5
  replace ck0 := k0.cell
  replace fk0 := k0.frozen
  replace s1 := sl_keep RSt.loc s1 b5 hhi
  replace hhi := Nat.le_trans hhi (b5).size
  try replace om := om.below b5
  replace bb := below_below bb b5
  obtain ⟨q, hq⟩ := tell (stP xs)
  have t0 : decide (r = r) = true := by simp
  go_wp2_with fail
  refine (specStampsOk_any xs _ w5 _ _ hhi s1 q hq).mono ?_
  rintro e w6 ⟨rfl, b6⟩
  replace k0 := blk_keep k0 b6
  replace ck0 := k0.cell
  replace fk0 := k0.frozen
  replace s1 := sl_keep RSt.loc s1 b6 hhi
  replace hhi := Nat.le_trans hhi (b6).size
  try replace om := om.below b6
  replace bb := below_below bb b6
  cases q with
  | false =>
    have HQ := Lib.hid hq; clear hq
    go_wp2_with fail
    refine (specKeepAll_any xs a b c9 h64 _ w6 _ _ hhi s1 r HR.out).mono ?_
    rintro e w7 ⟨vs, rfl, os, b7⟩
    obtain ⟨As, cs, rfl⟩ := os.form
    replace om := om.below b7
    go_wp2_with fail
    refine (ldInts_any r r _ _ w7 _ _ _ _ (om.sl HI.out (Nat.le_refl _)) (os.sl HI.out (Nat.le_refl _))).mono ?_
    rintro e w8 ⟨rfl, n8, h8⟩
    have b8 : Below w7.heap.size w7 w8 := h8 ▸ below_drewN (Below.refl w7.heap.size w7) n8
    clear h8
    go_wp2_with fail
    go_ret
    exact ⟨rfl, below_below (below_below bb b7) b8⟩
  | true =>
    have H2 := Lib.hid (hq.1 rfl); clear hq
    have ax := below_alloc w6 (.cells #[] 76)
    have l0 : OwnF FSt 76 (w6.alloc (.cells #[] 76)) w6.heap.size (.slice (some ⟨w6.heap.size, 0, none⟩) 0 0) [] := OwnF.lit0 (Lit0.new _ _ (Nat.le_refl _))
    have hl12 := H2.out.2
    go_wp2_with fail
    have sr := om.sl HI.out (Nat.le_refl _)
    have hag := keep_again H2.out HR.out
    have HAG := Lib.hid hag; clear hag
    generalize w6.alloc (.cells #[] 76) = w7 at *
    go_loopw [6, 7] (fun oo ii wr => ∃ k : Nat, k ≤ xs.length ∧ ii = .int .i64 k ∧ OwnF FSt 76 wr w6.heap.size oo ((xs.take k).filter fun x => decide (x.s ∈ r)) ∧ Below w6.heap.size w6 wr) (fun oo ii _ => xs.length - (intOf ii).toNat)
    case atStart => exact ⟨0, Nat.zero_le _, rfl, by simpa using l0, ax⟩
    case round =>
      clear l0 ax
      obtain ⟨k, hk, rfl, ho, hbr⟩ := hrel
      have g2 := sl_keep RSt.loc s1 hbr hhi
      have t1 := sl_keep RInt.loc sr hbr (Nat.le_refl _)
      have k1 := blk_keep k0 hbr
      have ck1 := k1.cell
      have fk1 := k1.frozen
      obtain ⟨Ao, co, rfl⟩ := ho.form
      have hlo : ((xs.take k).filter fun x => decide (x.s ∈ r)).length ≤ 12 := by
        have := List.length_filter_le (fun x : St => decide (x.s ∈ r)) (xs.take k)
        rw [List.length_take] at this
        omega
      by_cases hlt : k < xs.length
      · obtain ⟨x, hxk⟩ := some_of_lt hlt
        obtain ⟨b1, off, rfl, _, _, hx64, hcell, hcell1⟩ := st_at g2 hxk
        have hstep : (xs.take (k + 1)).filter (fun x => decide (x.s ∈ r)) = ((xs.take k).filter fun x => decide (x.s ∈ r)) ++ if decide (x.s ∈ r) then [x] else [] := by
          rw [take_succ hxk, List.filter_append]
          congr 1
          cases h : decide (x.s ∈ r) <;> simp [h]
        have HSTEP := Lib.hid hstep; clear hstep hxk
        revert ho hlo HSTEP
        generalize (xs.take k).filter (fun x => decide (x.s ∈ r)) = L
        intro ho hlo HSTEP
        go_wp2_with fail
        refine (ldIn_any r x.s _ _ _ wr _ _ t1).mono ?_
        rintro e wy ⟨rfl, rfl⟩
        by_cases q1 : x.s ∈ r
        · have u1 : decide (x.s ∈ r) = true := decide_eq_true q1
          have hnx := HSTEP.out
          rw [if_pos (by simp [q1])] at hnx
          have HNX := Lib.hid hnx; clear hnx HSTEP q1
          have HLO := Lib.hid hlo
          go_wp2_with (at_builtin; refine app_flat (F := FSt) (v := .slice Ao L.length co) rfl (.tmp 49) (.tmp 54) 66 rfl elem_st x rfl ho rfl rfl (by have := HLO.out; omega) hbr.size ?_; intro v8 w8 o8 ch8 at8; obtain ⟨A8, c8, rfl⟩ := o8.form; simp only [List.length_append, List.length_cons, List.length_nil, Nat.zero_add] at o8 at8)
          go_roundw
          case rel => exact ⟨k + 1, by omega, by go_num, by rw [HNX.out]; exact o8, hbr.trans (ch8.below hbr.size fun i hi hs => by have := (ho.at_ hs).1; omega)⟩
          case measure => simp [intOf]; omega
        · have u1 : decide (x.s ∈ r) = false := decide_eq_false q1
          have hnx := HSTEP.out
          rw [if_neg (by simp [q1]), List.append_nil] at hnx
          have HNX := Lib.hid hnx; clear hnx HSTEP q1
          go_wp2_with fail
          go_roundw
          case rel => exact ⟨k + 1, by omega, by go_num, by rw [HNX.out]; exact ho, hbr⟩
          case measure => simp [intOf]; omega
      · have HAG2 : Hid (KAllR ((xs.take k).filter fun x => decide (x.s ∈ r)) a b c9 r) := Lib.hid (by rw [List.take_of_length_le (by omega)]; exact HAG.out)
        have HGD : Hid (∀ y ∈ (xs.take k).filter (fun x => decide (x.s ∈ r)), FSt.good y) := Lib.hid fun y hy => G1.out y (List.mem_of_mem_take (List.mem_filter.1 hy).1)
        clear HAG
        revert ho hlo HAG2 HGD
        generalize (xs.take k).filter (fun x => decide (x.s ∈ r)) = L
        intro ho hlo HAG HGD
        obtain rfl : k = xs.length := by omega
        go_wp2_with fail
        refine (implKeepAll_any L a b c9 h64 _ wr _ _ (Nat.le_refl _) (ho.sl HGD.out (Nat.le_refl _)) r HAG.out).mono ?_
        rintro e w8 ⟨vz, rfl, oz, b8⟩
        obtain ⟨Az, cz, rfl⟩ := oz.form
        go_wp2_with fail
        refine (ldInts_any r r _ _ w8 _ _ _ _ (oz.sl HI.out (Nat.le_refl _)) (sl_keep RInt.loc t1 b8 hbr.size)).mono ?_
        rintro e w9 ⟨rfl, n9, h9⟩
        have b9 : Below w8.heap.size w8 w9 := h9 ▸ below_drewN (Below.refl w8.heap.size w8) n9
        clear h9
        go_wp2_with fail
        go_ret
        exact ⟨rfl, below_below (below_below (below_below bb hbr) b8) b9⟩

set_option maxRecDepth 100000 in
theorem lifted (os : Os) (started : os.Started) (H : Type) (enc : TypeId × Value → H) :
    ReturnsInHanded {} Try.checked os 11 .any (Rows.fnKeepAgainSpec.pre6 enc Try.prog Try.f11 Rows.fnKeepAgainRow.domain false) (Rows.fnKeepAgainSpec.post enc Try.prog Try.f11 false true false false) := by
  refine law_lifted own started (by kernel_rfl) Try.func11 laidOut (by kernel_rfl) rfl Try.underlying4 rfl (fun ds hl => ?_)
    (ChangeSpec.witness6 (enc := enc) (C := Try.checked) false ⟨#[], #[.slice none 0 0], []⟩ 8 (by kernel_rfl) (by kernel_rfl) (by kernel_rfl) (by kernel_rfl)) ?_
  · match ds, hl with
    | [_], _ => rfl
  intro W base args ds p hval0 hA hlt hsz hsh
  have hval : ∀ (j : Nat) t v, Try.f11.params[j]? = some t → args[j]? = some v → Value.okWide Try.prog W .any base t v := hval0
  rw [Try.params11] at hA hval
  obtain ⟨v0, d0, rfl, rfl, h0⟩ := trodAll_one hA
  obtain ⟨a0_0, r0⟩ := open_byte_slice (hval 0 30 v0 rfl rfl) h0 (by first | exact hlt | exact fun x hx => hlt x (by simp [hx]))
  exact walk a0_0 r0 W

set_option maxRecDepth 100000 in
theorem factsHold : joinedFacts Try.pinned.checked.prog 11 Try.f11 Rows.fnKeepAgainSpec Rows.fnKeepAgainRow = true := by
  unfold joinedFacts
  rw [liftsFinal, mayEnter, makeIs]
  kernel_rfl
set_option maxRecDepth 100000 in
theorem proved : Rows.FnKeepAgainSaid :=
  OpenClaim.holds_of_wide 11 Try.f11 rfl rfl rfl rfl rfl rfl rfl ⟨rfl, rfl, rfl, rfl, rfl⟩ rfl rfl rfl rfl rfl (by kernel_rfl) Try.func11 factsHold
    (of_decide_eq_true (by kernel_rfl)) (by unfold Func.isWrapper; first | (rw [if_pos (by decide +kernel)]; kernel_rfl) | (rw [if_neg (by decide +kernel)]; exact ⟨rfl, rfl⟩))
    (fun os started H enc _ => lifted os started H enc)
#print axioms proved
end Go.Proofs.Ytpdbohjgmghgkaa.lawka
