


/- The law FnIndexMerge: of two indexes the newer one counts. No condition. -/
import Derived.Test.YtpdbohjgmghgkaaLaw
import Derived.Test.YtpdbohjgmghgkaaDrI
import Derived.Test.YtpdbohjgmghgkaaHeard
import Derived.Test.YtpdbohjgmghgkaaEnter
import Derived.Test.YtpdbohjgmghgkaaMake
namespace Go.Proofs.Ytpdbohjgmghgkaa.lawim
open Go.RowKit Go.ChangeShapes Go.WideShapes Go.ChangeAt

theorem find_puts {n : Int} : ∀ {a l : List Sp}, (∀ x ∈ a, ¬ x.p = 0) → ascS a → findS n (putsS a l) = if findS n a = 0 then findS n l else findS n a
  | [], l, _, _ => by show findS n l = if (0 : Int) = 0 then _ else _; rw [if_pos rfl]
  | s :: a, l, h, ha => by
    have ha' := List.pairwise_cons.1 ha
    show findS n (putsS a (putS s l)) = if (if s.n = n then s.p else findS n a) = 0 then findS n l else (if s.n = n then s.p else findS n a)
    rw [find_puts (fun x hx => h x (by simp [hx])) ha'.2, findS_put]
    have hp := h s (by simp)
    by_cases he : s.n = n
    · rw [if_pos he, if_pos he, findS_out (l := a) fun x hx e => by have := ha'.1 x hx; omega, if_pos rfl, if_neg hp]
    · rw [if_neg he, if_neg he]
theorem find_le {n : Int} : ∀ {a : List Sp}, ixP a → In64 (findS n a)
  | [], _ => by show In64 0; unfold In64; omega
  | s :: a, h => by
    show In64 (if s.n = n then s.p else findS n a)
    split
    · have := (h.1 s (by simp)).2; unfold In64; omega
    · exact find_le ⟨fun x hx => h.1 x (by simp [hx]), (List.pairwise_cons.1 h.2).2⟩
set_option maxHeartbeats 4000000 in
theorem walk (l : List Int) {v : Value} {w : World} (h : RSl RByte 1 w 0 w.heap.size l [v]) (w' : World) (hw : w' = w := by rfl) :
    Calls Try.prog 4 #[v] w' fun e w' => e = .returned (.bool true) ∧ Below w.heap.size w w' := by
  subst hw
  obtain ⟨A, c, rfl⟩ := h.form
  have hlen : l.length ≤ maxLen := by obtain ⟨_, h1, h2⟩ := h.len_; omega
  unfold maxLen at hlen
  by_cases hbig : 1048576 < l.length
  · go_enter Try.func4, Try.ntmps4
    go_wp2_with fail
    go_ret
    exact ⟨rfl, Below.refl _ _⟩
  go_enter Try.func4, Try.ntmps4
  go_wp2_with fail
  refine (drawIndexMerge_any l A _ c _ h).mono ?_
  rintro e w1 ⟨va, vb, a, b, rfl, oa, ob, ⟨la, lb⟩, ⟨ga, gb⟩, bb⟩
  obtain ⟨r, hr⟩ := IMerge_total a b
  have HR := Lib.hid hr; clear hr
  have GA := Lib.hid ga; clear ga
  have GB := Lib.hid gb; clear gb
  obtain ⟨Aa, ca, rfl⟩ := oa.form
  obtain ⟨Ab, cb, rfl⟩ := ob.form
  have s1 := bb.size
  go_wp2_with fail
  refine (implIndexMerge_any a b _ _ _ _ _ (Nat.le_refl _) (oa.sl GA.out (Nat.le_refl _)) (ob.sl GB.out (Nat.le_refl _)) (by omega) r HR.out).mono ?_
  rintro e w2 ⟨vm, rfl, om, bw2⟩
  obtain ⟨Avm, cvm, rfl⟩ := om.form
  have GM := Lib.hid (sp_good HR.out.ix)
  have hlm : r.length ≤ a.length + b.length := by
    rcases HR.out with ⟨_, rfl⟩ | ⟨_, rfl⟩
    · exact putsS_len
    · simp
  replace oa := oa.below bw2
  replace ob := ob.below bw2
  replace bb := below_below bb bw2
  have om := om.base s1
  have zz2 := bw2.size
  go_wp2_with fail
  refine (specIndexMerge_any a b _ _ _ _ _ (Nat.le_refl _) (oa.sl GA.out (Nat.le_refl _)) (ob.sl GB.out (Nat.le_refl _)) (by omega) r HR.out).mono ?_
  rintro e w3 ⟨vs, rfl, os, bw3⟩
  obtain ⟨Avs, cvs, rfl⟩ := os.form
  replace oa := oa.below bw3
  replace ob := ob.below bw3
  try replace om := om.below bw3
  replace bb := below_below bb bw3
  have s2 := bb.size
  go_wp2_with fail
  refine (ldIndex_any r r _ _ _ _ _ (Nat.le_refl _) (om.sl GM.out (Nat.le_refl _)) ((os.base (Nat.le_trans s1 zz2)).sl GM.out (Nat.le_refl _)) true (by simp)).mono ?_
  rintro e w4 ⟨rfl, bw4⟩
  replace oa := oa.below bw4
  replace ob := ob.below bw4
  try replace om := om.below bw4
  replace bb := below_below bb bw4
  clear os
  obtain ⟨qa, hqa⟩ := bool_of (ixP a)
  go_wp2_with fail
  refine (specIndexOk_any a _ _ _ _ (Nat.le_refl _) (oa.sl GA.out (Nat.le_refl _)) qa hqa).mono ?_
  rintro e w5 ⟨rfl, bw5⟩
  replace oa := oa.below bw5
  replace ob := ob.below bw5
  try replace om := om.below bw5
  replace bb := below_below bb bw5
  cases qa with
  | false =>
    have s5 := bb.size
    have HQ := Lib.hid hqa; clear hqa
    go_wp2_with fail
    refine (specIndexMerge_any a b _ _ _ _ _ (Nat.le_refl _) (oa.sl GA.out (Nat.le_refl _)) (ob.sl GB.out (Nat.le_refl _)) (by omega) r HR.out).mono ?_
    rintro e w7 ⟨vt, rfl, ot, bw7⟩
    obtain ⟨Avt, cvt, rfl⟩ := ot.form
    replace oa := oa.below bw7
    replace ob := ob.below bw7
    try replace om := om.below bw7
    replace bb := below_below bb bw7
    go_wp2_with fail
    refine (ldIndex_any r r _ _ _ _ _ (Nat.le_refl _) (om.sl GM.out (Nat.le_refl _)) ((ot.base s5).sl GM.out (Nat.le_refl _)) true (by simp)).mono ?_
    rintro e w8 ⟨rfl, bw8⟩
    replace oa := oa.below bw8
    replace ob := ob.below bw8
    try replace om := om.below bw8
    replace bb := below_below bb bw8
    go_wp2_with fail
    go_ret
    exact ⟨rfl, bb⟩
  | true =>
    have PA := Lib.hid (hqa.1 rfl); clear hqa
    obtain ⟨qb, hqb⟩ := bool_of (ixP b)
    go_wp2_with fail
    refine (specIndexOk_any b _ _ _ _ (Nat.le_refl _) (ob.sl GB.out (Nat.le_refl _)) qb hqb).mono ?_
    rintro e w6 ⟨rfl, bw6⟩
    replace oa := oa.below bw6
    replace ob := ob.below bw6
    try replace om := om.below bw6
    replace bb := below_below bb bw6
    cases qb with
    | false =>
      have s5 := bb.size
      have HQ := Lib.hid hqb; clear hqb
      go_wp2_with fail
      refine (specIndexMerge_any a b _ _ _ _ _ (Nat.le_refl _) (oa.sl GA.out (Nat.le_refl _)) (ob.sl GB.out (Nat.le_refl _)) (by omega) r HR.out).mono ?_
      rintro e w7 ⟨vt, rfl, ot, bw7⟩
      obtain ⟨Avt, cvt, rfl⟩ := ot.form
      replace oa := oa.below bw7
      replace ob := ob.below bw7
      try replace om := om.below bw7
      replace bb := below_below bb bw7
      go_wp2_with fail
      refine (ldIndex_any r r _ _ _ _ _ (Nat.le_refl _) (om.sl GM.out (Nat.le_refl _)) ((ot.base s5).sl GM.out (Nat.le_refl _)) true (by simp)).mono ?_
      rintro e w8 ⟨rfl, bw8⟩
      replace oa := oa.below bw8
      replace ob := ob.below bw8
      try replace om := om.below bw8
      replace bb := below_below bb bw8
      go_wp2_with fail
      go_ret
      exact ⟨rfl, bb⟩
    | true =>
      have PB := Lib.hid (hqb.1 rfl); clear hqb
      have hr : r = putsS a b := by
        rcases HR.out with ⟨_, h⟩ | ⟨h, _⟩
        · exact h
        · exact absurd ⟨PA.out, PB.out⟩ h
      have HRE := Lib.hid hr; clear hr
      go_wp2_with fail
      go_loopw [6] (fun kk wr => ∃ i : Nat, kk = .int .i64 i ∧ i ≤ 14 ∧ Below w6.heap.size w6 wr) (fun kk _ => 14 - (intOf kk).toNat)
      case atStart => exact ⟨0, rfl, by omega, Below.refl _ _⟩
      case round =>
        obtain ⟨i, rfl, hi, bw⟩ := hrel
        replace oa := oa.below bw
        replace ob := ob.below bw
        try replace om := om.below bw
        replace bb := below_below bb bw
        by_cases hlt : i < 14
        · have h64i : In64 (i : Int) := by unfold In64; omega
          have hf := find_puts (n := i) (a := a) (l := b) (fun x hx => by have := (PA.out.1 x hx).2; omega) PA.out.2
          rw [← HRE.out] at hf
          have fa : IFind a i (findS i a) := .inl ⟨PA.out, rfl⟩
          have fb : IFind b i (findS i b) := .inl ⟨PB.out, rfl⟩
          have fm : IFind r i (findS i r) := .inl ⟨HR.out.ix, rfl⟩
          generalize findS (i : Int) a = na at *
          generalize findS (i : Int) b = nb at *
          generalize findS (i : Int) r = nm at *
          have FA := Lib.hid fa; have FB := Lib.hid fb; have FM := Lib.hid fm
          clear fa fb fm
          go_wp2_with fail
          refine (implIndexFind_any a i _ _ _ _ (Nat.le_refl _) (oa.sl GA.out (Nat.le_refl _)) h64i (by omega) na FA.out).mono ?_
          rintro e wa ⟨rfl, bwa⟩
          replace oa := oa.below bwa
          replace ob := ob.below bwa
          try replace om := om.below bwa
          replace bb := below_below bb bwa
          by_cases hna : na = 0
          · rw [if_pos hna] at hf
            have t1 : (na == 0) = true := beq_iff_eq.2 hna
            subst hf
            go_wp2_with fail
            refine (implIndexFind_any b i _ _ _ _ (Nat.le_refl _) (ob.sl GB.out (Nat.le_refl _)) h64i (by omega) nm FB.out).mono ?_
            rintro e wb ⟨rfl, bwb⟩
            replace oa := oa.below bwb
            replace ob := ob.below bwb
            try replace om := om.below bwb
            replace bb := below_below bb bwb
            go_wp2_with fail
            refine (implIndexFind_any r i _ _ _ _ (Nat.le_refl _) (om.sl GM.out (Nat.le_refl _)) h64i (by omega) nm FM.out).mono ?_
            rintro e wc ⟨rfl, bwc⟩
            replace oa := oa.below bwc
            replace ob := ob.below bwc
            try replace om := om.below bwc
            replace bb := below_below bb bwc
            go_wp2_with fail
            go_roundw
            case rel => exact ⟨i + 1, by go_num, by omega, below_below (below_below (below_below bw bwa) bwb) bwc⟩
            case measure => simp [intOf]; omega
          · rw [if_neg hna] at hf
            have t1 : (na == 0) = false := beq_eq_false_iff_ne.2 hna
            subst hf
            go_wp2_with fail
            refine (implIndexFind_any r i _ _ _ _ (Nat.le_refl _) (om.sl GM.out (Nat.le_refl _)) h64i (by omega) nm FM.out).mono ?_
            rintro e wc ⟨rfl, bwc⟩
            replace oa := oa.below bwc
            replace ob := ob.below bwc
            try replace om := om.below bwc
            replace bb := below_below bb bwc
            go_wp2_with fail
            go_roundw
            case rel => exact ⟨i + 1, by go_num, by omega, below_below (below_below bw bwa) bwc⟩
            case measure => simp [intOf]; omega
        · obtain rfl : i = 14 := by omega
          go_wp2_with fail
          refine (implIndexOk_any r _ _ _ _ (Nat.le_refl _) (om.sl GM.out (Nat.le_refl _)) true (by simp only [true_iff]; exact HR.out.ix)).mono ?_
          rintro e wa ⟨rfl, bwa⟩
          replace oa := oa.below bwa
          replace ob := ob.below bwa
          try replace om := om.below bwa
          replace bb := below_below bb bwa
          have t1 : decide (r.length ≤ a.length + b.length) = true := decide_eq_true hlm
          have t2 : decide ((r.length : Int) ≤ (a.length : Int) + (b.length : Int)) = true := decide_eq_true (by omega)
          go_wp2_with fail
          go_ret
          exact ⟨rfl, bb⟩

set_option maxRecDepth 100000 in
theorem lifted (os : Os) (started : os.Started) (H : Type) (enc : TypeId × Value → H) :
    ReturnsInHanded {} Try.checked os 4 .any (Rows.fnIndexMergeSpec.pre6 enc Try.prog Try.f4 Rows.fnIndexMergeRow.domain false) (Rows.fnIndexMergeSpec.post enc Try.prog Try.f4 false true false false) := by
  refine law_lifted own started (by kernel_rfl) Try.func4 laidOut (by kernel_rfl) rfl Try.underlying4 rfl (fun ds hl => ?_)
    (ChangeSpec.witness6 (enc := enc) (C := Try.checked) false ⟨#[], #[.slice none 0 0], []⟩ 8 (by kernel_rfl) (by kernel_rfl) (by kernel_rfl) (by kernel_rfl)) ?_
  · match ds, hl with
    | [_], _ => rfl
  intro W base args ds p hval0 hA hlt hsz hsh
  have hval : ∀ (j : Nat) t v, Try.f4.params[j]? = some t → args[j]? = some v → Value.okWide Try.prog W .any base t v := hval0
  rw [Try.params4] at hA hval
  obtain ⟨v0, d0, rfl, rfl, h0⟩ := trodAll_one hA
  obtain ⟨a0_0, r0⟩ := open_byte_slice (hval 0 30 v0 rfl rfl) h0 (by first | exact hlt | exact fun x hx => hlt x (by simp [hx]))
  exact walk a0_0 r0 W

set_option maxRecDepth 100000 in
theorem factsHold : joinedFacts Try.pinned.checked.prog 4 Try.f4 Rows.fnIndexMergeSpec Rows.fnIndexMergeRow = true := by
  unfold joinedFacts
  rw [liftsFinal, mayEnter, makeIs]
  kernel_rfl
set_option maxRecDepth 100000 in
theorem proved : Rows.FnIndexMergeSaid :=
  OpenClaim.holds_of_wide 4 Try.f4 rfl rfl rfl rfl rfl rfl rfl ⟨rfl, rfl, rfl, rfl, rfl⟩ rfl rfl rfl rfl rfl (by kernel_rfl) Try.func4 factsHold
    (of_decide_eq_true (by kernel_rfl)) (by unfold Func.isWrapper; first | (rw [if_pos (by decide +kernel)]; kernel_rfl) | (rw [if_neg (by decide +kernel)]; exact ⟨rfl, rfl⟩))
    (fun os started H enc _ => lifted os started H enc)
#print axioms proved
end Go.Proofs.Ytpdbohjgmghgkaa.lawim
