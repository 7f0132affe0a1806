/- The law FnSampleDraw: as many are drawn as are asked for, each once. No condition. -/
import Derived.Test.YtbaofalpfmfloaaLaw
import Derived.Test.YtbaofalpfmfloaaDri
namespace Go.Proofs.Ytbaofalpfmfloaa.lawsd
open Go.RowKit Go.ChangeShapes Go.WideShapes Go.ChangeAt

set_option maxHeartbeats 1000000 in
theorem walk (l : List Int) {v : Value} {w : World} (h : RSl RByte 1 w 0 w.heap.size l [v]) (w' : World) (hw : w' = w := by rfl) :
    Calls Try.prog 10 #[v] w' fun e w' => e = .returned (.bool true) ∧ Below w.heap.size w w' := by
  subst hw
  obtain ⟨A, c, rfl⟩ := h.form
  have hlen : l.length ≤ maxLen := by obtain ⟨_, h1, h2⟩ := h.len_; omega
  unfold maxLen at hlen
  by_cases hbig : 1048576 < l.length
  · go_enter Try.func10, Try.ntmps10
    go_wp2_with fail
    go_ret
    exact ⟨rfl, Below.refl _ _⟩
  go_enter Try.func10, Try.ntmps10
  go_wp2_with fail
  refine (drawDraw_any l _ _ h).mono ?_
  rintro e w1 ⟨s, m, d, rfl, ⟨hs1, hs2⟩, ⟨hm1, hm2⟩, ⟨hd1, hd2⟩, b1⟩
  have L := RSl.loc (sz := 1) RInt.loc
  have hlen := Lib.hid (sDrawAll_len s m d)
  have h64 := Lib.hid (sDrawAll_in64 s m d)
  go_wp2_with fail
  refine (implDraw_any _ _ _ _).mono ?_
  rintro e w2 ⟨v2, rfl, o2, b2⟩
  have b2' := below_below b1 b2
  have r2 := o2.sl h64.out (Nat.le_refl _)
  go_wp2_with fail
  refine (specDraw_any _ _ _ _).mono ?_
  rintro e w3 ⟨v3, rfl, r3, b3⟩
  have b3' := below_below b2' b3
  have r23 := L.below r2 b3 (Nat.le_refl _)
  go_wp2_with fail
  refine (ldInts_any _ _ _ _ _ _ _ _ _ r23 r3).mono ?_
  rintro e w4 ⟨rfl, n4, rfl⟩
  rw [decide_eq_true (rfl : sDrawAll s m d = sDrawAll s m d)]
  have b4 := below_drewN b3' n4
  have r4 := L.below r23 (below_drewN (Below.refl w3.heap.size w3) n4) b3.size
  by_cases h0 : (sDrawAll s m d).length = 0
  · have t1 : (((sDrawAll s m d).length : Int) == 0) = true := beq_iff_eq.2 (by omega)
    have H0 := Lib.hid h0
    clear h0
    obtain ⟨A2, c2, rfl⟩ := r4.form
    go_wp2_with fail
    refine (specDraw_any _ _ _ _).mono ?_
    rintro e w5 ⟨v5, rfl, r5, b5⟩
    have r45 := L.below r4 b5 b3.size
    go_wp2_with fail
    refine (ldInts_any _ _ _ _ _ _ _ _ _ r45 r5).mono ?_
    rintro e w6 ⟨rfl, n6, rfl⟩
    rw [decide_eq_true (rfl : sDrawAll s m d = sDrawAll s m d)]
    go_wp2_with fail
    go_ret
    exact ⟨rfl, below_drewN (below_below b4 b5) n6⟩
  · have hv : 0 ≤ s ∧ s ≤ 999 ∧ 0 ≤ m ∧ m ≤ 20 ∧ 0 ≤ d ∧ d ≤ m := by
      refine Classical.byContradiction fun hv => h0 ?_
      rw [sDrawAll_no s m d hv]; rfl
    obtain ⟨g1, g2, g3, g4, g5, g6⟩ := hv
    have hyes := sDrawAll_yes s m d ⟨g1, g2, g3, g4, g5, g6⟩
    have hl : (sDrawAll s m d).length = d.toNat := by rw [hyes]; exact sDraw_len' _ _ _ (by omega)
    have hsort : (sDrawAll s m d).Pairwise (· < ·) := by rw [hyes]; exact sDraw_sorted _ _ _
    have hbd : ∀ y ∈ sDrawAll s m d, 0 ≤ y ∧ y < m := fun y hy => by
      rw [hyes] at hy
      have := sDraw_bd s m.toNat d.toNat (by omega) y hy
      omega
    have HS := Lib.hid hsort; have HB := Lib.hid hbd
    clear hsort hbd hyes
    have t1 : (((sDrawAll s m d).length : Int) == 0) = false := beq_eq_false_iff_ne.2 (by omega)
    have t2 : (((sDrawAll s m d).length : Int) == d) = true := beq_iff_eq.2 (by omega)
    have HL := Lib.hid hl
    clear hl
    have hl20 := hlen.out
    obtain ⟨A2, c2, rfl⟩ := r4.form
    go_wp2_with fail
    go_loopw [7] (fun i wr => ∃ k : Nat, k ≤ (sDrawAll s m d).length ∧ i = .int .i64 k ∧ ∃ n, wr = w3.drewN n) (fun i _ => (sDrawAll s m d).length - (intOf i).toNat)
    case atStart => exact ⟨0, Nat.zero_le _, rfl, n4, rfl⟩
    case round =>
      obtain ⟨k, hk, rfl, n, rfl⟩ := hrel
      by_cases hlt : k < (sDrawAll s m d).length
      · obtain ⟨x, hxk⟩ := some_of_lt hlt
        obtain ⟨x1, x2⟩ := HB.out x (List.mem_of_getElem? hxk)
        obtain ⟨b, off, hA, _, _, _, hcell⟩ := r23.ints_at hxk
        subst hA
        by_cases hk0 : 0 < k
        · obtain ⟨y, hyk⟩ := some_of_lt (l := sDrawAll s m d) (k := k - 1) (by omega)
          obtain ⟨b', off', hA, _, _, _, hcell2⟩ := r23.ints_at hyk
          simp only [Option.some.injEq, Addr.mk.injEq, and_true] at hA
          obtain ⟨rfl, rfl⟩ := hA
          have hyx : y < x := by
            have e1 := List.getElem?_eq_some_iff.1 hyk
            have e2 := List.getElem?_eq_some_iff.1 hxk
            obtain ⟨l1, e1⟩ := e1
            obtain ⟨l2, e2⟩ := e2
            rw [← e1, ← e2]
            exact List.pairwise_iff_getElem.1 HS.out (k - 1) k l1 l2 (by omega)
          clear hxk hyk
          have t3 : decide ((0 : Int) < (k : Int)) = true := decide_eq_true (by omega)
          have w1' : IntKind.i64.wrap ((k : Int) - 1) = (k : Int) - 1 := IntWalk.i64_in _ (by omega)
          have d1 : decide (x < 0) = false := decide_eq_false (by omega)
          have d2 : decide (m ≤ x) = false := decide_eq_false (by omega)
          have d3 : decide (x ≤ y) = false := decide_eq_false (by omega)
          have q1 : 0 ≤ (k : Int) - 1 := by omega
          have q2 : ((k : Int) - 1).toNat = k - 1 := by omega
          have q3 : (k : Int) - 1 < ((sDrawAll s m d).length : Int) := by omega
          go_wp2_with fail
          go_quiet (fail)
          go_wp2_with fail
          go_roundw
          case rel => first | exact ⟨k + 1, by omega, by go_num, _, rfl⟩ | ((repeat apply Exists.intro); refine ⟨?_, rfl⟩; exact ⟨k + 1, by omega, by go_num, _, rfl⟩)
          case measure => simp [intOf]; omega
        · obtain rfl : k = 0 := by omega
          clear hxk
          rw [Nat.add_zero] at hcell
          have d1 : decide (x < 0) = false := decide_eq_false (by omega)
          have d2 : decide (m ≤ x) = false := decide_eq_false (by omega)
          go_wp2_with fail
          go_quiet (fail)
          go_wp2_with fail
          go_roundw
          case rel => first | exact ⟨1, by omega, by go_num, _, rfl⟩ | ((repeat apply Exists.intro); refine ⟨?_, rfl⟩; exact ⟨1, by omega, by go_num, _, rfl⟩)
          case measure => simp [intOf]; omega
      · obtain rfl : k = (sDrawAll s m d).length := by omega
        go_wp2_with fail
        go_ret
        exact ⟨rfl, below_drewN b3' n⟩

set_option maxRecDepth 100000 in
theorem lifted (os : Os) (started : os.Started) (H : Type) (enc : TypeId × Value → H) :
    ReturnsInHanded {} Try.checked os 10 .any (Rows.fnSampleDrawSpec.pre6 enc Try.prog Try.f10 Rows.fnSampleDrawRow.domain false) (Rows.fnSampleDrawSpec.post enc Try.prog Try.f10 false true false false) := by
  refine law_lifted own started (by kernel_rfl) Try.func10 laidOut (by kernel_rfl) rfl Try.underlying4 rfl (fun ds hl => ?_)
    (ChangeSpec.witness6 (enc := enc) (C := Try.checked) false ⟨#[], #[.slice none 0 0], []⟩ 8 (by kernel_rfl) (by kernel_rfl) (by kernel_rfl) (by kernel_rfl)) ?_
  · match ds, hl with
    | [_], _ => rfl
  intro W base args ds p hval0 hA hlt hsz hsh
  have hval : ∀ (j : Nat) t v, Try.f10.params[j]? = some t → args[j]? = some v → Value.okWide Try.prog W .any base t v := hval0
  rw [Try.params10] at hA hval
  obtain ⟨v0, d0, rfl, rfl, h0⟩ := trodAll_one hA
  obtain ⟨a0_0, r0⟩ := open_byte_slice (hval 0 30 v0 rfl rfl) h0 (by first | exact hlt | exact fun x hx => hlt x (by simp [hx]))
  exact walk a0_0 r0 W

set_option maxRecDepth 100000 in
theorem proved : Rows.FnSampleDrawSaid :=
  OpenClaim.holds_of_wide 10 Try.f10 rfl rfl rfl rfl rfl rfl rfl ⟨rfl, rfl, rfl, rfl, rfl⟩ rfl rfl rfl rfl rfl (by kernel_rfl) Try.func10 (by kernel_rfl)
    (of_decide_eq_true (by kernel_rfl)) (by unfold Func.isWrapper; first | (rw [if_pos (by decide +kernel)]; kernel_rfl) | (rw [if_neg (by decide +kernel)]; exact ⟨rfl, rfl⟩))
    (fun os started H enc _ => lifted os started H enc)
#print axioms proved
end Go.Proofs.Ytbaofalpfmfloaa.lawsd
