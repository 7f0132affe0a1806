


/- The law FnRingSpan: keys of a machine are of epochs without a gap. No condition. -/
import Derived.Test.YtdbeclnoaeiaeaaLaw
import Derived.Test.YtdbeclnoaeiaeaaDrX
import Derived.Test.YtdbeclnoaeiaeaaRgK
import Derived.Test.YtdbeclnoaeiaeaaHeard
import Derived.Test.YtdbeclnoaeiaeaaEnter
import Derived.Test.YtdbeclnoaeiaeaaMake
namespace Go.Proofs.Ytdbeclnoaeiaeaa.lawrs
open Go.RowKit Go.ChangeShapes Go.WideShapes Go.ChangeAt

/-- Between two epochs whose keys a machine has it has each. -/
theorem span {r : Rg} {m a e x : Int} (hr : ringP r) (ha : keyP r m a) (he : keyP r m e) (h1 : a ≤ x ∨ e ≤ x) (h2 : x ≤ a ∨ x ≤ e) : keyP r m x := by
  obtain ⟨g, hg, hm, hf, ht⟩ := ha
  obtain ⟨k, hk, hm', hf', ht'⟩ := he
  obtain ⟨i, hi⟩ := List.mem_iff_getElem?.1 hg
  obtain ⟨j, hj⟩ := List.mem_iff_getElem?.1 hk
  obtain ⟨_, rfl⟩ := grs_one hr.2.1 hi hj (by rw [hm, hm'])
  refine ⟨g, hg, hm, by omega, ?_⟩
  rcases ht with ht | ht
  · exact .inl ht
  · rcases ht' with ht' | ht'
    · exact .inl ht'
    · right; omega
set_option maxHeartbeats 4000000 in
theorem walk (l : List Int) {v : Value} {w : World} (h : RSl RByte 1 w 0 w.heap.size l [v]) (l2 : List Int) {v2 : Value} (h2 : RSl RByte 1 w 0 w.heap.size l2 [v2]) (w' : World) (hw : w' = w := by rfl) :
    Calls Try.prog 7 #[v, v2] w' fun e w' => e = .returned (.bool true) ∧ Below w.heap.size w w' := by
  subst hw
  obtain ⟨A, c, rfl⟩ := h.form
  obtain ⟨A2, c2, rfl⟩ := h2.form
  have hlen : l.length ≤ maxLen := by obtain ⟨_, h1, h2⟩ := h.len_; omega
  have hlen2 : l2.length ≤ maxLen := by obtain ⟨_, h1, h2⟩ := h2.len_; omega
  unfold maxLen at hlen hlen2
  by_cases hbig : 1048576 < l.length
  · go_enter Try.func7, Try.ntmps7
    go_wp2_with fail
    go_ret
    exact ⟨rfl, Below.refl _ _⟩
  by_cases hbig2 : 1048576 < l2.length
  · go_enter Try.func7, Try.ntmps7
    go_wp2_with fail
    go_ret
    exact ⟨rfl, Below.refl _ _⟩
  go_enter Try.func7, Try.ntmps7
  go_wp2_with fail
  refine (drawRingKey_any l A _ c _ h).mono ?_
  rintro e w1 ⟨va, vb, rr, m, ep, rfl, o1, f1, hm, hep, hbw⟩
  obtain ⟨k, ok, hk⟩ := RKey_total rr m ep
  have HK := Lib.hid hk; clear hk
  have hpos := f1.pos
  have hl12 := f1.keys
  have HF := Lib.hid f1; clear f1
  obtain ⟨A1, c1, rfl⟩ := o1.keys.form
  obtain ⟨B1, d1, rfl⟩ := o1.grs.form
  obtain ⟨rs1, rs2⟩ := o1.reads HF.out.good
  have hhi := Nat.le_refl w1.heap.size
  go_wp2_with fail
  have hbw2 : Below w1.heap.size w1 (w1.alloc (.cells #[.slice A1 rr.keys.length c1, .slice B1 rr.grs.length d1] 30)) := below_alloc _ _
  have k0 : Blk (w1.alloc (.cells #[.slice A1 rr.keys.length c1, .slice B1 rr.grs.length d1] 30)) (w1.heap.size) 30 #[.slice A1 rr.keys.length c1, .slice B1 rr.grs.length d1] := by
    have hk := Blk.new w1 30 #[.slice A1 rr.keys.length c1, .slice B1 rr.grs.length d1]
    exact hk
  have hsw2 : w1.heap.size + 1 ≤ (w1.alloc (.cells #[.slice A1 rr.keys.length c1, .slice B1 rr.grs.length d1] 30)).heap.size := by simp only [World.size_alloc]; omega
  generalize (w1.alloc (.cells #[.slice A1 rr.keys.length c1, .slice B1 rr.grs.length d1] 30)) = w2 at *
  have ck0 := k0.cell
  have fk0 := k0.frozen
  replace rs1 := sl_keep RInt.loc rs1 hbw2 hhi
  replace rs2 := sl_keep RGr.loc rs2 hbw2 hhi
  replace hhi := Nat.le_trans hhi hbw2.size
  replace hbw := below_below hbw hbw2
  refine (specRingKey_any rr m ep _ _ _ _ _ hhi rs1 rs2 k ok HK.out).mono ?_
  rintro e w3 ⟨rfl, b3⟩
  replace rs1 := sl_keep RInt.loc rs1 b3 hhi
  replace rs2 := sl_keep RGr.loc rs2 b3 hhi
  replace hhi := Nat.le_trans hhi b3.size
  replace hbw := below_below hbw b3
  replace k0 := blk_keep k0 b3
  replace ck0 := k0.cell
  replace fk0 := k0.frozen
  go_wp2_with fail
  refine (implRingKey_any rr m ep _ _ _ _ _ hhi rs1 rs2 k ok HK.out).mono ?_
  rintro e w4 ⟨rfl, b4⟩
  replace rs1 := sl_keep RInt.loc rs1 b4 hhi
  replace rs2 := sl_keep RGr.loc rs2 b4 hhi
  replace hhi := Nat.le_trans hhi b4.size
  replace hbw := below_below hbw b4
  replace k0 := blk_keep k0 b4
  replace ck0 := k0.cell
  replace fk0 := k0.frozen
  go_wp2_with fail
  by_cases hP : ringP rr
  · refine (specRingOk_any rr _ _ _ _ _ hhi rs1 rs2 true (by simp only [true_iff]; exact hP)).mono ?_
    rintro e w5 ⟨rfl, b5⟩
    have HP := Lib.hid hP; clear hP
    replace rs1 := sl_keep RInt.loc rs1 b5 hhi
    replace rs2 := sl_keep RGr.loc rs2 b5 hhi
    replace hhi := Nat.le_trans hhi b5.size
    replace hbw := below_below hbw b5
    replace k0 := blk_keep k0 b5
    replace ck0 := k0.cell
    replace fk0 := k0.frozen
    have m0 : (rr.keys.length : Int) ≠ 0 := by omega
    have m1 : 0 ≤ (l2.length : Int) % (rr.keys.length : Int) := Int.emod_nonneg _ m0
    have m2 : (l2.length : Int) % (rr.keys.length : Int) < (rr.keys.length : Int) := Int.emod_lt_of_pos _ (by omega)
    obtain ⟨k2, one, hk2⟩ := RKey_total rr m (1 + (l2.length : Int) % (rr.keys.length : Int))
    have HK2 := Lib.hid hk2; clear hk2
    go_wp2_with fail
    generalize 1 + (l2.length : Int) % (rr.keys.length : Int) = a at *
    refine (implRingKey_any rr m a _ _ _ _ _ hhi rs1 rs2 k2 one HK2.out).mono ?_
    rintro e w6 ⟨rfl, b6⟩
    replace rs1 := sl_keep RInt.loc rs1 b6 hhi
    replace rs2 := sl_keep RGr.loc rs2 b6 hhi
    replace hhi := Nat.le_trans hhi b6.size
    replace hbw := below_below hbw b6
    replace k0 := blk_keep k0 b6
    replace ck0 := k0.cell
    replace fk0 := k0.frozen
    cases ok with
    | false =>
      go_wp2_with fail
      go_ret
      exact ⟨rfl, hbw⟩
    | true =>
      cases one with
      | false =>
        go_wp2_with fail
        go_ret
        exact ⟨rfl, hbw⟩
      | true =>
        have p1 := HK.out.ok_iff.1 rfl
        have p2 := HK2.out.ok_iff.1 rfl
        have hbe := p1.2.1
        have hba := p2.2.1
        have hsp : ∀ x, (a ≤ x ∨ ep ≤ x) → (x ≤ a ∨ x ≤ ep) → keyP rr m x := fun x h1 h2 => span HP.out p2.2.2 p1.2.2 h1 h2
        have HSP := Lib.hid hsp
        clear p1 p2 hsp
        rcases (by omega : a ≤ ep ∨ ep < a) with hae | hae
        · have hmx : (if a < ep then ep else a) = ep := by split <;> omega
          have hmn : (if ep < a then ep else a) = a := by split <;> omega
          go_wp2_with fail
          go_loopw [15] (fun xx wr => ∃ i : Int, xx = .int .i64 i ∧ a ≤ i ∧ i ≤ ep + 1 ∧ Below w6.heap.size w6 wr) (fun xx _ => (ep + 1 - intOf xx).toNat)
          case atStart => exact ⟨a, rfl, by omega, by omega, Below.refl _ _⟩
          case round =>
            obtain ⟨i, rfl, hi1, hi2, bw⟩ := hrel
            replace rs1 := sl_keep RInt.loc rs1 bw hhi
            replace rs2 := sl_keep RGr.loc rs2 bw hhi
            replace hhi := Nat.le_trans hhi bw.size
            replace hbw := below_below hbw bw
            replace k0 := blk_keep k0 bw
            replace ck0 := k0.cell
            replace fk0 := k0.frozen
            by_cases hlt : i ≤ ep
            · obtain ⟨k3, ok3, hk3⟩ := RKey_total rr m i
              have hok3 : ok3 = true := hk3.ok_iff.2 ⟨HP.out, ⟨by omega, by omega⟩, HSP.out i (by omega) (by omega)⟩
              subst hok3
              have HK3 := Lib.hid hk3; clear hk3
              go_wp2_with fail
              refine (implRingKey_any rr m i _ _ _ _ _ hhi rs1 rs2 k3 true HK3.out).mono ?_
              rintro e w7 ⟨rfl, b7⟩
              go_wp2_with fail
              go_roundw
              case rel => exact ⟨i + 1, by go_num, by omega, by omega, below_below bw b7⟩
              case measure => simp [intOf]; omega
            · go_wp2_with fail
              go_ret
              exact ⟨rfl, hbw⟩
        · have hmx : (if a < ep then ep else a) = a := by split <;> omega
          have hmn : (if ep < a then ep else a) = ep := by split <;> omega
          go_wp2_with fail
          go_loopw [15] (fun xx wr => ∃ i : Int, xx = .int .i64 i ∧ ep ≤ i ∧ i ≤ a + 1 ∧ Below w6.heap.size w6 wr) (fun xx _ => (a + 1 - intOf xx).toNat)
          case atStart => exact ⟨ep, rfl, by omega, by omega, Below.refl _ _⟩
          case round =>
            obtain ⟨i, rfl, hi1, hi2, bw⟩ := hrel
            replace rs1 := sl_keep RInt.loc rs1 bw hhi
            replace rs2 := sl_keep RGr.loc rs2 bw hhi
            replace hhi := Nat.le_trans hhi bw.size
            replace hbw := below_below hbw bw
            replace k0 := blk_keep k0 bw
            replace ck0 := k0.cell
            replace fk0 := k0.frozen
            by_cases hlt : i ≤ a
            · obtain ⟨k3, ok3, hk3⟩ := RKey_total rr m i
              have hok3 : ok3 = true := hk3.ok_iff.2 ⟨HP.out, ⟨by omega, by omega⟩, HSP.out i (by omega) (by omega)⟩
              subst hok3
              have HK3 := Lib.hid hk3; clear hk3
              go_wp2_with fail
              refine (implRingKey_any rr m i _ _ _ _ _ hhi rs1 rs2 k3 true HK3.out).mono ?_
              rintro e w7 ⟨rfl, b7⟩
              go_wp2_with fail
              go_roundw
              case rel => exact ⟨i + 1, by go_num, by omega, by omega, below_below bw b7⟩
              case measure => simp [intOf]; omega
            · go_wp2_with fail
              go_ret
              exact ⟨rfl, hbw⟩
  · refine (specRingOk_any rr _ _ _ _ _ hhi rs1 rs2 false (by simp only [Bool.false_eq_true, false_iff]; exact hP)).mono ?_
    rintro e w5 ⟨rfl, b5⟩
    replace rs1 := sl_keep RInt.loc rs1 b5 hhi
    replace rs2 := sl_keep RGr.loc rs2 b5 hhi
    replace hhi := Nat.le_trans hhi b5.size
    replace hbw := below_below hbw b5
    replace k0 := blk_keep k0 b5
    replace ck0 := k0.cell
    replace fk0 := k0.frozen
    go_wp2_with fail
    go_ret
    exact ⟨rfl, hbw⟩

set_option maxRecDepth 100000 in
theorem lifted (os : Os) (started : os.Started) (H : Type) (enc : TypeId × Value → H) :
    ReturnsInHanded {} Try.checked os 7 .any (Rows.fnRingSpanSpec.pre6 enc Try.prog Try.f7 Rows.fnRingSpanRow.domain false) (Rows.fnRingSpanSpec.post enc Try.prog Try.f7 false true false false) := by
  refine law_lifted own started (by kernel_rfl) Try.func7 laidOut (by kernel_rfl) rfl Try.underlying4 rfl (fun ds hl => ?_)
    (ChangeSpec.witness6 (enc := enc) (C := Try.checked) false ⟨#[], #[.slice none 0 0, .slice none 0 0], []⟩ 8 (by kernel_rfl) (by kernel_rfl) (by kernel_rfl) (by kernel_rfl)) ?_
  · match ds, hl with
    | [_, _], _ => rfl
  intro W base args ds p hval0 hA hlt hsz hsh
  have hval : ∀ (j : Nat) t v, Try.f7.params[j]? = some t → args[j]? = some v → Value.okWide Try.prog W .any base t v := hval0
  rw [Try.params7] at hA hval
  obtain ⟨v0, v1, d0, d1, p0, p1, rfl, rfl, rfl, h0, h1⟩ := trodAll_two hA
  obtain ⟨a0_0, r0⟩ := open_byte_slice (hval 0 34 v0 rfl rfl) h0 (by first | exact hlt | exact fun x hx => hlt x (by simp [hx]))
  obtain ⟨a1_0, r1⟩ := open_byte_slice (hval 1 34 v1 rfl rfl) h1 (by first | exact hlt | exact fun x hx => hlt x (by simp [hx]))
  exact walk a0_0 r0 a1_0 r1 W

set_option maxRecDepth 100000 in
theorem factsHold : joinedFacts Try.pinned.checked.prog 7 Try.f7 Rows.fnRingSpanSpec Rows.fnRingSpanRow = true := by
  unfold joinedFacts
  rw [liftsFinal, mayEnter, makeIs]
  kernel_rfl
set_option maxRecDepth 100000 in
theorem proved : Rows.FnRingSpanSaid :=
  OpenClaim.holds_of_wide 7 Try.f7 rfl rfl rfl rfl rfl rfl rfl ⟨rfl, rfl, rfl, rfl, rfl⟩ rfl rfl rfl rfl rfl (by kernel_rfl) Try.func7 factsHold
    (of_decide_eq_true (by kernel_rfl)) (by unfold Func.isWrapper; first | (rw [if_pos (by decide +kernel)]; kernel_rfl) | (rw [if_neg (by decide +kernel)]; exact ⟨rfl, rfl⟩))
    (fun os started H enc _ => lifted os started H enc)
#print axioms proved
end Go.Proofs.Ytdbeclnoaeiaeaa.lawrs
