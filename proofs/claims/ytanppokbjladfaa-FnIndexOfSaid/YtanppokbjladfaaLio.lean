


/- The law FnIndexOf. No condition. -/
import Derived.Test.YtanppokbjladfaaLaw
import Derived.Test.YtanppokbjladfaaNm
import Derived.Test.YtanppokbjladfaaHeard
import Derived.Test.YtanppokbjladfaaEnter
import Derived.Test.YtanppokbjladfaaMake
namespace Go.Proofs.Ytanppokbjladfaa.lawio
open Go.RowKit Go.ChangeShapes Go.WideShapes Go.ChangeAt
theorem spots_len : ∀ {l : List Pk} {n : Nat}, (∀ x ∈ l, x.its.length ≤ 5) → l.length ≤ n → (spots l).length ≤ 5 * n
  | [], _, _, _ => Nat.zero_le _
  | x :: l, n, h, hn => by
    have h1 := h x (by simp)
    have h2 := spots_len (l := l) (n := l.length) (fun y hy => h y (by simp [hy])) (Nat.le_refl _)
    have e : spots (x :: l) = spotsP x ++ spots l := by unfold spots; rw [List.flatMap_cons]
    rw [e, List.length_append]
    have e2 : (spotsP x).length = x.its.length := by unfold spotsP; rw [List.length_map]
    simp at hn
    omega
theorem iof_ix {l : List Pk} {r : List Sp} (h : IOf l r) : ixP r := by
  rcases h with ⟨h, rfl⟩ | ⟨_, rfl⟩
  · exact putsS_ix ⟨fun x hx => (by cases hx), List.Pairwise.nil⟩ h
  · exact ⟨fun x hx => (by cases hx), List.Pairwise.nil⟩
set_option maxRecDepth 8000 in
set_option maxHeartbeats 4000000 in
theorem walk (l : List Int) {v : Value} {w : World} (h : RSl RByte 1 w 0 w.heap.size l [v]) (w' : World) (hw : w' = w := by rfl) :
    Calls Try.prog 5 #[v] w' fun e w' => e = .returned (.bool true) ∧ Below w.heap.size w w' := by
  subst hw
  obtain ⟨A, c, rfl⟩ := h.form
  have hlen : l.length ≤ maxLen := by obtain ⟨_, h1, h2⟩ := h.len_; omega
  unfold maxLen at hlen
  by_cases hbig : 1048576 < l.length
  · go_enter Try.func5, Try.ntmps5
    go_wp2_with fail
    go_ret
    exact ⟨rfl, Below.refl _ _⟩
  go_enter Try.func5, Try.ntmps5
  go_wp2_with fail
  refine (drawIndexOf_any A _ c l _ h).mono ?_
  rintro e w1 ⟨v, xs, rfl, hx, hix, bb⟩
  have HIX := Lib.hid hix; clear hix
  obtain ⟨r, hr⟩ := IOf_total xs
  have HR := Lib.hid hr; clear hr
  have hsp := spots_len (fun x hx => (HIX.out.1 x hx).2.2.2) HIX.out.2.1
  obtain ⟨A1, c1, rfl⟩ := hx.form
  have s1 := bb.size
  go_wp2_with fail
  refine (implIndexOf_any xs _ _ _ _ (Nat.le_refl _) hx (by omega) r HR.out).mono ?_
  rintro e w2 ⟨v2, rfl, o2, b2⟩
  obtain ⟨A2', c2', rfl⟩ := o2.form
  have GM := Lib.hid (sp_good (iof_ix HR.out))
  have hx2 := RPks.tloc.below hx b2 (Nat.le_refl _)
  have bb2 := below_below bb b2
  have s2 := b2.size
  go_wp2_with fail
  refine (specIndexOf_any xs _ _ _ _ s2 hx2 (by omega) r HR.out).mono ?_
  rintro e w3 ⟨v3, rfl, o3, b3⟩
  obtain ⟨A3, c3, rfl⟩ := o3.form
  have hx3 := RPks.tloc.below hx2 b3 s2
  have bb3 := below_below bb2 b3
  have o23 := o2.below b3
  have s3 := b3.size
  go_wp2_with fail
  refine (ldIndex_any r r _ _ _ _ _ (Nat.le_refl _) (o23.sl GM.out (Nat.le_refl _)) ((o3.base s2).sl GM.out (Nat.le_refl _)) true (by simp)).mono ?_
  rintro e w4 ⟨rfl, b4⟩
  have hx4 := RPks.tloc.below hx3 b4 (by omega)
  have bb4 := below_below bb3 b4
  have o24 := o23.below b4
  have s4 := b4.size
  clear hx2 hx3 bb2 bb3 o23 o3 hx o2
  have hxl := HIX.out.2.1
  clear hlen hbig
  by_cases hp : 0 < xs.length
  · obtain ⟨x0, hx0⟩ := some_of_lt hp
    obtain ⟨b', off', A', c', rfl, -, -, -, hc0, -⟩ := pk_at hx4 hx0
    have hcc : w4.cell? ⟨b', off', none⟩ = some (.int .i64 x0.no) := by simpa using hc0
    have t1 : decide (0 < (xs.length : Int)) = true := decide_eq_true (by omega)
    have HX0 := Lib.hid hx0; clear hx0 hc0
    by_cases h0 : x0.no = 0
    · have t2 : (x0.no == 0) = true := beq_iff_eq.2 h0
      clear h0
      go_wp2_with fail
      refine (specIndexOf_any xs _ _ _ _ (by omega) hx4 (by omega) r HR.out).mono ?_
      rintro e w5 ⟨v5, rfl, o5, b5⟩
      obtain ⟨A5, c5, rfl⟩ := o5.form
      have o25 := o24.below b5
      go_wp2_with fail
      refine (ldIndex_any r r _ _ _ _ _ (Nat.le_refl _) (o25.sl GM.out (Nat.le_refl _)) ((o5.base (by omega)).sl GM.out (Nat.le_refl _)) true (by simp)).mono ?_
      rintro e w6 ⟨rfl, b6⟩
      go_wp2_with fail
      go_ret
      exact ⟨rfl, below_below (below_below bb4 b5) b6⟩
    · have t2 : (x0.no == 0) = false := beq_eq_false_iff_ne.2 h0
      have HNO := Lib.hid h0; clear h0
      go_wp2_with fail
      clear hcc
      generalize (some (⟨b', off', none⟩ : Addr)) = A1 at *
      have HALL : Hid (∀ s ∈ spots xs, spP s) := Lib.hid (ip_all HIX.out fun x hx => by have := Option.some.inj (hx.symm.trans HX0.out); subst this; exact HNO.out)
      have hrr : r = putsS (spots xs) [] := by
        rcases HR.out with ⟨_, h⟩ | ⟨h, _⟩
        · exact h
        · exact absurd HALL.out h
      have HRR := Lib.hid hrr; clear hrr
      have HIXP := Lib.hid (iof_ix HR.out)
      have hrl := HR.out.len
      go_wp2_with fail
      go_loopw [5] (fun ii wr => ∃ i : Nat, i ≤ xs.length ∧ ii = .int .i64 i ∧ Below w4.heap.size w4 wr) (fun ii _ => xs.length - (intOf ii).toNat)
      case atStart => exact ⟨0, Nat.zero_le _, rfl, Below.refl _ _⟩
      case round =>
        obtain ⟨i, hi, rfl, hb5⟩ := hrel
        by_cases hlt : i < xs.length
        · obtain ⟨p, hpk⟩ := some_of_lt hlt
          have HP := Lib.hid hpk; clear hpk
          go_wp2_with fail
          go_loopw [6] (fun kk wy => ∃ k : Nat, k ≤ p.its.length ∧ kk = .int .i64 k ∧ Below w4.heap.size w4 wy) (fun kk _ => p.its.length - (intOf kk).toNat)
          case atStart => exact ⟨0, Nat.zero_le _, rfl, hb5⟩
          case round =>
            clear hb5
            obtain ⟨k, hk, rfl, hb6⟩ := hrel
            have hx6 := RPks.tloc.below hx4 hb6 (by omega)
            obtain ⟨b1, off1, A5, c5, rfl, -, -, hno64, cno, cits, hits⟩ := pk_at hx6 HP.out
            obtain ⟨_, hc5, hx5⟩ := hits.len_
            unfold maxLen at hx5
            by_cases hkl : k < p.its.length
            · obtain ⟨y, hyk⟩ := some_of_lt hkl
              have HY := Lib.hid hyk; clear hyk
              go_wp2_with fail
              go_loopw [7, 8] (fun ll jj wz => ∃ j : Nat, j ≤ xs.length ∧ jj = .int .i64 j ∧ ll = .int .i64 (lastOf (xs.take j) y.n) ∧ Below w4.heap.size w4 wz) (fun _ jj _ => xs.length - (intOf jj).toNat)
              case atStart => exact ⟨0, Nat.zero_le _, rfl, rfl, hb6⟩
              case round =>
                clear hb6 hx6 cno cits hits
                obtain ⟨j, hj, rfl, rfl, hb7⟩ := hrel
                have hx7 := RPks.tloc.below hx4 hb7 (by omega)
                obtain ⟨b2, off2, A6, c6, e6, -, -, -, cno, cits, hits⟩ := pk_at hx7 HP.out
                cases e6
                obtain ⟨b3, off3, rfl, -, -, hy64, cn, -⟩ := it_at hits HY.out
                obtain ⟨_, hc6, hx6⟩ := hits.len_
                unfold maxLen at hx6
                by_cases hjl : j < xs.length
                · obtain ⟨q, hqk⟩ := some_of_lt hjl
                  obtain ⟨b4, off4, A7, c7, e7, -, -, hq64, cqno, cqits, hqits⟩ := pk_at hx7 hqk
                  cases e7
                  have hst := lastOf_take hqk y.n
                  have hq5 := (HIX.out.1 q (List.mem_of_getElem? hqk)).2.2.2
                  have HQ := Lib.hid hqk; clear hqk
                  have HST := Lib.hid hst; clear hst
                  have HQI := Lib.hid hqits; clear hqits
                  have HQ64 : Hid (∀ z ∈ namesOf q.its, In64 z) := Lib.hid fun z hz => by
                    obtain ⟨it, hit, rfl⟩ := List.mem_map.1 hz
                    have := (HIX.out.1 q (List.mem_of_getElem? HQ.out)).1 it hit
                    unfold In64; omega
                  go_wp2_with fail
                  have past0 := past_cell cno
                  have past1 := past_cell cits
                  have past2 := past_cell cn
                  have past3 := past_cell cqno
                  have past4 := past_cell cqits
                  refine region_pastT 15 [0, 1, 2, 3, 5, 6, 7, 8, 9, 10, 11, 12, 13] [4, 14] (by kernel_rfl) (by kernel_rfl) (by kernel_rfl) ?_
                  simp only [pick, List.map, List.getD_cons_zero, List.getD_cons_succ]
                  repeat (go_big_quiet_step (fail))
                  refine wpQuiet_nil ?_
                  clear past0 past1 past2 past3 past4
                  apply Exists.intro
                  apply past_any (fun v w' => ∃ A c, v = .slice A (namesOf q.its).length c ∧ OwnF FInt 3 w' wr.heap.size v (namesOf q.its))
                  · rfl
                  · exact fun v x y ⟨A, c, e, ho⟩ hle => ⟨A, c, e, ho.below hle⟩
                  · intro x hF Qx hQ'
                    have hQ := Lib.hid hQ'; clear hQ' hF
                    have hsz := x.ok.size
                    have hd := RIts.tloc.below HQI.out x.ok (by have := hb7.size; omega)
                    go_wp2_with fail
                    refine (implPackNames_any q.no q.its _ _ _ _ (by have := hb7.size; omega) hd (by omega)).mono ?_
                    rintro e w8 ⟨v8, rfl, o8, b8⟩
                    obtain ⟨A8, c8, rfl⟩ := o8.form
                    go_wp2_with fail
                    exact hQ.out _ _ b8 ⟨_, _, rfl, o8.base hsz⟩
                  intro v4
                  simp only [Act.put, List.setIfInBounds_toArray, List.set_cons_zero, List.set_cons_succ]
                  apply past_fix (.bool (decide (y.n ∈ namesOf q.its)))
                  · intro x hF Qx hQ'
                    have hQ := Lib.hid hQ'; clear hQ'
                    obtain ⟨A8, c8, rfl, o8⟩ := hF.1 (by kernel_rfl)
                    clear hF
                    go_wp2_with fail
                    refine (ldIn_any (namesOf q.its) y.n _ _ _ x.to _ _ (o8.sl HQ64.out (Nat.le_refl _))).mono ?_
                    rintro e w9 ⟨rfl, rfl⟩
                    go_wp2_with fail
                    exact hQ.out _ (Below.refl _ _)
                  simp only [Act.put, List.setIfInBounds_toArray, List.set_cons_zero, List.set_cons_succ]
                  refine past_end ?_
                  intro w6 hb8 xx hxx hF
                  dsimp only [allF] at hF
                  try rw [hxx] at hF
                  clear hxx xx
                  simp only [List.drop]
                  clear hF
                  have cqno' := cell_keep hb8 cqno
                  clear cno cits cn cqno cqits
                  by_cases hin : y.n ∈ namesOf q.its
                  · rw [show decide (y.n ∈ namesOf q.its) = true from decide_eq_true hin]
                    have HIN := Lib.hid hin; clear hin
                    go_wp2_with fail
                    go_roundw
                    case rel => exact ⟨j + 1, by omega, by go_num, by rw [HST.out, if_pos HIN.out], below_below hb7 hb8⟩
                    case measure => simp [intOf]; omega
                  · rw [show decide (y.n ∈ namesOf q.its) = false from decide_eq_false hin]
                    have HIN := Lib.hid hin; clear hin
                    go_wp2_with fail
                    go_roundw
                    case rel => exact ⟨j + 1, by omega, by go_num, by rw [HST.out, if_neg HIN.out], below_below hb7 hb8⟩
                    case measure => simp [intOf]; omega
                · obtain rfl : j = xs.length := by omega
                  rw [List.take_length]
                  have hfl : findS y.n r = lastOf xs y.n := by rw [HRR.out, find_last xs HALL.out]
                  have HFL := Lib.hid hfl; clear hfl
                  have o7 := o24.below hb7
                  go_wp2_with fail
                  refine (implIndexFind_any r y.n _ _ _ _ (Nat.le_refl _) (o7.sl GM.out (Nat.le_refl _)) hy64.1 (by omega) (findS y.n r) (.inl ⟨HIXP.out, rfl⟩)).mono ?_
                  rintro e w8 ⟨rfl, b8⟩
                  rw [HFL.out]
                  have tn : (lastOf xs y.n != lastOf xs y.n) = false := by simp
                  clear cno cits cn
                  go_wp2_with fail
                  go_roundw
                  case rel => exact ⟨k + 1, by omega, by go_num, below_below hb7 b8⟩
                  case measure => simp [intOf]; omega
            · obtain rfl : k = p.its.length := by omega
              go_wp2_with fail
              go_roundw
              case rel => exact ⟨i + 1, by omega, by go_num, hb6⟩
              case measure => simp [intOf]; omega
        · obtain rfl : i = xs.length := by omega
          have o5 := o24.below hb5
          go_wp2_with fail
          refine (implIndexOk_any r _ _ _ _ (Nat.le_refl _) (o5.sl GM.out (Nat.le_refl _)) true (by simp only [true_iff]; exact HIXP.out)).mono ?_
          rintro e w8 ⟨rfl, b8⟩
          go_wp2_with fail
          go_ret
          exact ⟨rfl, below_below (below_below bb4 hb5) b8⟩
  · have t1 : decide (0 < (xs.length : Int)) = false := decide_eq_false (by omega)
    go_wp2_with fail
    have HALL : Hid (∀ s ∈ spots xs, spP s) := Lib.hid (ip_all HIX.out fun x hx => by have := lt_of_some hx; omega)
    have hrr : r = putsS (spots xs) [] := by
      rcases HR.out with ⟨_, h⟩ | ⟨h, _⟩
      · exact h
      · exact absurd HALL.out h
    have HRR := Lib.hid hrr; clear hrr
    have HIXP := Lib.hid (iof_ix HR.out)
    have hrl := HR.out.len
    go_wp2_with fail
    go_loopw [5] (fun ii wr => ∃ i : Nat, i ≤ xs.length ∧ ii = .int .i64 i ∧ Below w4.heap.size w4 wr) (fun ii _ => xs.length - (intOf ii).toNat)
    case atStart => exact ⟨0, Nat.zero_le _, rfl, Below.refl _ _⟩
    case round =>
      obtain ⟨i, hi, rfl, hb5⟩ := hrel
      by_cases hlt : i < xs.length
      · exact absurd (Nat.lt_of_le_of_lt (Nat.zero_le _) hlt) hp
      · obtain rfl : i = xs.length := by omega
        have o5 := o24.below hb5
        go_wp2_with fail
        refine (implIndexOk_any r _ _ _ _ (Nat.le_refl _) (o5.sl GM.out (Nat.le_refl _)) true (by simp only [true_iff]; exact HIXP.out)).mono ?_
        rintro e w8 ⟨rfl, b8⟩
        go_wp2_with fail
        go_ret
        exact ⟨rfl, below_below (below_below bb4 hb5) b8⟩
set_option maxRecDepth 100000 in
theorem lifted (os : Os) (started : os.Started) (H : Type) (enc : TypeId × Value → H) :
    ReturnsInHanded {} Try.checked os 5 .any (Rows.fnIndexOfSpec.pre6 enc Try.prog Try.f5 Rows.fnIndexOfRow.domain false) (Rows.fnIndexOfSpec.post enc Try.prog Try.f5 false true false false) := by
  refine law_lifted own started (by kernel_rfl) Try.func5 laidOut (by kernel_rfl) rfl Try.underlying4 rfl (fun ds hl => ?_)
    (ChangeSpec.witness6 (enc := enc) (C := Try.checked) false ⟨#[], #[.slice none 0 0], []⟩ 8 (by kernel_rfl) (by kernel_rfl) (by kernel_rfl) (by kernel_rfl)) ?_
  · match ds, hl with
    | [_], _ => rfl
  intro W base args ds p hval0 hA hlt hsz hsh
  have hval : ∀ (j : Nat) t v, Try.f5.params[j]? = some t → args[j]? = some v → Value.okWide Try.prog W .any base t v := hval0
  rw [Try.params5] at hA hval
  obtain ⟨v0, d0, rfl, rfl, h0⟩ := trodAll_one hA
  obtain ⟨a0_0, r0⟩ := open_byte_slice (hval 0 33 v0 rfl rfl) h0 (by first | exact hlt | exact fun x hx => hlt x (by simp [hx]))
  exact walk a0_0 r0 W

set_option maxRecDepth 100000 in
theorem factsHold : joinedFacts Try.pinned.checked.prog 5 Try.f5 Rows.fnIndexOfSpec Rows.fnIndexOfRow = true := by
  unfold joinedFacts
  rw [liftsFinal, mayEnter, makeIs]
  kernel_rfl
set_option maxRecDepth 100000 in
theorem proved : Rows.FnIndexOfSaid :=
  OpenClaim.holds_of_wide 5 Try.f5 rfl rfl rfl rfl rfl rfl rfl ⟨rfl, rfl, rfl, rfl, rfl⟩ rfl rfl rfl rfl rfl (by kernel_rfl) Try.func5 factsHold
    (of_decide_eq_true (by kernel_rfl)) (by unfold Func.isWrapper; first | (rw [if_pos (by decide +kernel)]; kernel_rfl) | (rw [if_neg (by decide +kernel)]; exact ⟨rfl, rfl⟩))
    (fun os started H enc _ => lifted os started H enc)
#print axioms proved
end Go.Proofs.Ytanppokbjladfaa.lawio
