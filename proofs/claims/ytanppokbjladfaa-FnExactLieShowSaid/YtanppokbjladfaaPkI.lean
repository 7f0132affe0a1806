


/- The index of packs, by the reference and by the program; the names of a pack. -/
import Derived.Test.YtanppokbjladfaaPk
import Derived.Test.YtanppokbjladfaaIxF
import Derived.Test.YtanppokbjladfaaEf
namespace Go.Proofs.Ytanppokbjladfaa
open Go.RowKit

set_option maxHeartbeats 8000000 in
theorem specIndexOf_any (l : List Pk) (v : Value) (w : World) (lo hi : Nat) (hhi : hi ≤ w.heap.size) (h : RPks w lo hi l [v]) (hn : (spots l).length ≤ 4000000) (r : List Sp) (hr : IOf l r) :
    Calls Try.prog 11 #[v] w (NewSp w r) := by
  obtain ⟨A, c, rfl⟩ := h.form
  obtain ⟨_, hc, hx⟩ := h.len_
  unfold maxLen at hx
  have HR := Lib.hid hr; clear hr
  go_enter Try.func11, Try.ntmps11
  go_wp2_with fail
  have ba := below_alloc w (.cells #[] 77)
  have l0 : OwnF FSp 77 (w.alloc (.cells #[] 77)) w.heap.size (.slice (some ⟨w.heap.size, 0, none⟩) 0 0) [] := OwnF.lit0 (Lit0.new _ _ (Nat.le_refl _))
  generalize w.alloc (.cells #[] 77) = w0 at *
  go_loopw [3, 4] (fun oo ii wr => ∃ k : Nat, k ≤ l.length ∧ ii = .int .i64 k ∧ OwnF FSp 77 wr w.heap.size oo (putsS (spots (l.take k)) []) ∧ (∀ s ∈ spots (l.take k), spP s) ∧ Below w.heap.size w wr) (fun oo ii _ => l.length - (intOf ii).toNat)
  case atStart => exact ⟨0, Nat.zero_le _, rfl, l0, fun s hs => (by cases hs), ba⟩
  case round =>
    clear l0 ba
    obtain ⟨k, hk, rfl, ho, hs, hbr⟩ := hrel
    have HS := Lib.hid hs; clear hs
    have g2 := RPks.tloc.below h hbr hhi
    by_cases hlt : k < l.length
    · obtain ⟨p, hpk⟩ := some_of_lt hlt
      have HP := Lib.hid hpk; clear hpk
      have HS0 : Hid (∀ s ∈ spotsTo l k 0, spP s) := Lib.hid (by rw [spotsTo_zero]; exact HS.out)
      rw [← spotsTo_zero] at ho
      obtain ⟨Ao, co, rfl⟩ := ho.form
      have ho0 := ho
      clear ho HS
      go_wp2_with fail
      go_loopw [3, 5] (fun oo jj wy => ∃ j : Nat, j ≤ p.its.length ∧ jj = .int .i64 j ∧ OwnF FSp 77 wy w.heap.size oo (putsS (spotsTo l k j) []) ∧ (∀ s ∈ spotsTo l k j, spP s) ∧ Below w.heap.size w wy) (fun oo jj _ => p.its.length - (intOf jj).toNat)
      case atStart => exact ⟨0, Nat.zero_le _, rfl, ho0, HS0.out, hbr⟩
      case round =>
        clear ho0 HS0 g2 hbr
        obtain ⟨j, hj, rfl, ho, hs, hby⟩ := hrel
        have HS := Lib.hid hs; clear hs
        obtain ⟨b1, off, A1, c1, rfl, hb1, hb2, hno, cno0, cits0, hits0⟩ := pk_at h HP.out
        have cno := cell_keep hby cno0
        have cits := cell_keep hby cits0
        have hits := RIts.tloc.below hits0 hby hhi
        obtain ⟨_, hc1, hx1⟩ := hits.len_
        unfold maxLen at hx1
        clear cno0 cits0 hits0
        have hlen := spotsTo_len (j := j) HP.out
        have hpl := putsS_len (a := spotsTo l k j) (l := [])
        have hol : (putsS (spotsTo l k j) []).length ≤ 4000000 := by simp only [List.length_nil, Nat.add_zero] at hpl; omega
        clear hpl hlen
        by_cases hjl : j < p.its.length
        · obtain ⟨y, hyj⟩ := some_of_lt hjl
          obtain ⟨b2, off2, rfl, _, _, hy64, cn, cb⟩ := it_at hits hyj
          have hstep := spotsTo_step HP.out hyj
          have HY := Lib.hid hyj; clear hyj
          have HST := Lib.hid hstep; clear hstep
          obtain ⟨Ao, co, rfl⟩ := ho.form
          have HLT := Lib.hid (fun b hb => (ho.at_ (g := b) hb).2)
          go_wp2_with fail
          have past0 := past_cell cno
          have past1 := past_cell cits
          have past2 := past_cell cn
          refine region_pastT 16 [0, 1, 2, 3, 4, 5, 6, 7, 8, 9, 10, 11, 12, 13, 14] [15] (by kernel_rfl) (by kernel_rfl) (by kernel_rfl) ?_
          simp only [pick, List.map, List.getD_cons_zero, List.getD_cons_succ]
          repeat (go_big_quiet_step (fail))
          refine wpQuiet_nil ?_
          clear past0 past1 past2
          apply Exists.intro
          apply past_any (fun v w' => ∃ g, v = .pointer (some ⟨g, 0, none⟩) ∧ wr.heap.size ≤ g ∧ Blk w' g 77 #[.int .i64 0, .int .i64 0])
          · rfl
          · exact fun v x y ⟨g, e, hg, hk⟩ hle => ⟨g, e, hg, blk_keep hk hle⟩
          · intro x hF Qx hQ'
            have hQ := Lib.hid hQ'; clear hQ' hF
            go_wp2_with fail
            exact hQ.out _ _ (below_alloc _ _) ⟨_, rfl, x.ok.size, Blk.new _ _ _⟩
          intro u6
          simp only [Act.put, List.setIfInBounds_toArray, List.set_cons_zero, List.set_cons_succ]
          refine past_end ?_
          intro w2 hb2 xx hxx hF
          dsimp only [allF] at hF
          try rw [hxx] at hF
          clear hxx xx
          obtain ⟨⟨g, rfl, hg, kb⟩, -⟩ := hF
          simp only [List.drop]
          have gw := hby.size
          replace ho := ho.below hb2
          replace hby := below_below hby hb2
          have ckb := kb.cell
          have fkb := kb.frozen
          go_wp2_with fail
          have kb2 := (kb.set_ 0 (.int .i64 y.n)).set_ 1 (.int .i64 p.no)
          simp only [List.setIfInBounds_toArray, List.set_cons_zero, List.set_cons_succ] at kb2
          have hb3 : Below w.heap.size w ((w2.setCell ⟨g, 0, none⟩ (.int .i64 y.n)).setCell ⟨g, 1, none⟩ (.int .i64 p.no)) := (hby.setCell (by dsimp only; omega) _).setCell (by dsimp only; omega) _
          have ho3 : OwnF FSp 77 ((w2.setCell ⟨g, 0, none⟩ (.int .i64 y.n)).setCell ⟨g, 1, none⟩ (.int .i64 p.no)) w.heap.size (.slice Ao (putsS (spotsTo l k j) []).length co) (putsS (spotsTo l k j) []) :=
            (ho.set_ne _ (fun b hb => by have := HLT.out b hb; dsimp only; omega)).set_ne _ (fun b hb => by have := HLT.out b hb; dsimp only; omega)
          clear ckb fkb
          generalize (w2.setCell ⟨g, 0, none⟩ (.int .i64 y.n)).setCell ⟨g, 1, none⟩ (.int .i64 p.no) = w3 at *
          have ckb := kb2.cell
          obtain ⟨q, hq⟩ := bool_of (spP ⟨y.n, p.no⟩)
          refine (l4Spot_any ⟨y.n, p.no⟩ w3 q hq).mono ?_
          rintro e w4 ⟨rfl, b4⟩
          replace kb2 := blk_keep kb2 b4
          have ckb := kb2.cell
          replace ho3 := ho3.below b4
          replace hb3 := below_below hb3 b4
          cases q with
          | false =>
            have hbad : ¬ spP ⟨y.n, p.no⟩ := fun h => by have := hq.2 h; cases this
            have hr0 : r = [] := by
              rcases HR.out with ⟨h, _⟩ | ⟨_, h⟩
              · exact absurd (h _ (spotsTo_sub (k := k) (j := j + 1) _ (by rw [HST.out]; simp))) hbad
              · exact h
            subst hr0
            clear hq hbad
            have ba := below_alloc w4 (.cells #[] 77)
            go_wp2_with fail
            go_ret
            exact ⟨_, rfl, OwnF.lit0 (Lit0.new _ _ (hb3.size)), below_below hb3 ba⟩
          | true =>
            have hgood := hq.1 rfl
            have HG := Lib.hid hgood; clear hgood hq
            have HOL := Lib.hid hol
            have hasc := putsS_asc (a := spotsTo l k j) (l := []) List.Pairwise.nil
            have HASC := Lib.hid hasc; clear hasc
            have hgo : ∀ z ∈ putsS (spotsTo l k j) [], FSp.good z := fun z hz => by
              rcases putsS_mem hz with h | h
              · have := HS.out z h; unfold spP at this; show In64 z.n ∧ In64 z.p; unfold In64; omega
              · cases h
            have HGO := Lib.hid hgo; clear hgo
            have hnx : putsS (spotsTo l k (j + 1)) [] = putS ⟨y.n, p.no⟩ (putsS (spotsTo l k j) []) := by
              rw [HST.out, putsS_append]; rfl
            have HNX := Lib.hid hnx; clear hnx
            have hns : ∀ s ∈ spotsTo l k (j + 1), spP s := fun s hs => by
              rw [HST.out] at hs
              rcases List.mem_append.1 hs with h | h
              · exact HS.out s h
              · rw [List.mem_singleton.1 h]; exact HG.out
            have HNS := Lib.hid hns; clear hns
            revert ho3 HOL HASC HGO HNX
            generalize putsS (spotsTo l k j) [] = L
            intro ho3 HOL HASC HGO HNX
            go_wp2_with fail
            refine (l4Put_any ⟨y.n, p.no⟩ (by have := HG.out; unfold spP at this; unfold In64; omega) L _ w4 _ _ (Nat.le_refl _) (ho3.sl HGO.out (Nat.le_refl _)) HASC.out (by have := HOL.out; omega)).mono ?_
            rintro e w5 ⟨v5, rfl, o5, b5⟩
            obtain ⟨A5, c5, rfl⟩ := o5.form
            go_wp2_with fail
            go_roundw
            case rel => exact ⟨j + 1, by omega, by go_num, by rw [HNX.out]; exact o5.base hb3.size, HNS.out, below_below hb3 b5⟩
            case measure => simp [intOf]; omega
        · obtain rfl : j = p.its.length := by omega
          have he := spotsTo_end HP.out
          have HE := Lib.hid he; clear he
          have HS2 : Hid (∀ s ∈ spots (l.take (k + 1)), spP s) := Lib.hid (by rw [← HE.out]; exact HS.out)
          obtain ⟨Ao, co, rfl⟩ := ho.form
          go_wp2_with fail
          go_roundw
          case rel => exact ⟨k + 1, by omega, by go_num, by rw [← HE.out]; exact ho, HS2.out, hby⟩
          case measure => simp [intOf]; omega
    · obtain rfl : k = l.length := by omega
      have hrr : r = putsS (spots l) [] := by
        have h1 := HS.out
        rw [List.take_length] at h1
        rcases HR.out with ⟨_, h⟩ | ⟨h, _⟩
        · exact h
        · exact absurd h1 h
      have HRR := Lib.hid hrr; clear hrr HS
      rw [List.take_length, ← HRR.out] at ho
      obtain ⟨Ao, co, rfl⟩ := ho.form
      go_wp2_with fail
      go_ret
      exact ⟨_, rfl, ho, hbr⟩
set_option maxHeartbeats 8000000 in
theorem implIndexOf_any (l : List Pk) (v : Value) (w : World) (lo hi : Nat) (hhi : hi ≤ w.heap.size) (h : RPks w lo hi l [v]) (hn : (spots l).length ≤ 4000000) (r : List Sp) (hr : IOf l r) :
    Calls Try.prog 13 #[v] w (NewSp w r) := by
  obtain ⟨A, c, rfl⟩ := h.form
  obtain ⟨_, hc, hx⟩ := h.len_
  unfold maxLen at hx
  have HR := Lib.hid hr; clear hr
  go_enter Try.func13, Try.ntmps13
  go_wp2_with fail
  go_loopw [3, 11] (fun oo ii wr => ∃ k : Nat, k ≤ l.length ∧ ii = .int .i64 k ∧ OwnF FSp 77 wr w.heap.size oo (spots (l.take k)) ∧ (∀ s ∈ spots (l.take k), spP s) ∧ Below w.heap.size w wr) (fun oo ii _ => l.length - (intOf ii).toNat)
  case atStart => exact ⟨0, Nat.zero_le _, rfl, OwnF.nil _ _ _, fun s hs => (by cases hs), Below.refl _ _⟩
  case round =>
    obtain ⟨k, hk, rfl, ho, hs, hbr⟩ := hrel
    have HS := Lib.hid hs; clear hs
    have g2 := RPks.tloc.below h hbr hhi
    obtain ⟨Ao, co, rfl⟩ := ho.form
    by_cases hlt : k < l.length
    · obtain ⟨p, hpk⟩ := some_of_lt hlt
      have HP := Lib.hid hpk; clear hpk
      have HS0 : Hid (∀ s ∈ spotsTo l k 0, spP s) := Lib.hid (by rw [spotsTo_zero]; exact HS.out)
      rw [← spotsTo_zero] at ho
      have hzero : (spots (l.take k)).length = (spotsTo l k 0).length := by rw [spotsTo_zero]
      rw [hzero]
      clear hzero HS
      obtain ⟨b1, off, A1, c1, rfl, hb1, hb2, hno, cno0, cits0, hits0⟩ := pk_at h HP.out
      obtain ⟨_, hc1, hx1⟩ := hits0.len_
      have cno := cell_keep hbr cno0
      have cits := cell_keep hbr cits0
      clear cno0 cits0
      unfold maxLen at hx1
      go_wp2_with fail
      have hbwa : Below wr.heap.size wr (wr.alloc (.cells #[.int .i64 p.no, .slice A1 p.its.length c1] 37)) := below_alloc _ _
      have b0 : Blk (wr.alloc (.cells #[.int .i64 p.no, .slice A1 p.its.length c1] 37)) (wr.heap.size) 37 #[.int .i64 p.no, .slice A1 p.its.length c1] := by
        have hk := Blk.new wr 37 #[.int .i64 p.no, .slice A1 p.its.length c1]
        exact hk
      have hswa : wr.heap.size + 1 ≤ (wr.alloc (.cells #[.int .i64 p.no, .slice A1 p.its.length c1] 37)).heap.size := by simp only [World.size_alloc]; omega
      generalize (wr.alloc (.cells #[.int .i64 p.no, .slice A1 p.its.length c1] 37)) = wa at *
      have cb0 := b0.cell
      have fb0 := b0.frozen
      replace ho := ho.below hbwa
      have hba := below_below hbr hbwa
      go_loopw [3, 18] (fun oo jj wy => ∃ j : Nat, j ≤ p.its.length ∧ jj = .int .i64 j ∧ OwnF FSp 77 wy w.heap.size oo (spotsTo l k j) ∧ (∀ s ∈ spotsTo l k j, spP s) ∧ Below w.heap.size w wy ∧ Blk wy wr.heap.size 37 #[.int .i64 p.no, .slice A1 p.its.length c1]) (fun oo jj _ => p.its.length - (intOf jj).toNat)
      case atStart => exact ⟨0, Nat.zero_le _, rfl, ho, HS0.out, hba, b0⟩
      case round =>
        clear ho HS0 g2 b0 cb0 fb0 cno cits hba
        obtain ⟨j, hj, rfl, ho, hs, hby, b0⟩ := hrel
        have HS := Lib.hid hs; clear hs
        have hits := RIts.tloc.below hits0 hby hhi
        have cb0 := b0.cell
        have hlen := spotsTo_len (j := j) HP.out
        obtain ⟨Ao, co, rfl⟩ := ho.form
        by_cases hjl : j < p.its.length
        · obtain ⟨y, hyj⟩ := some_of_lt hjl
          obtain ⟨b2, off2, rfl, _, _, hy64, cn, cb⟩ := it_at hits hyj
          have hstep := spotsTo_step HP.out hyj
          have HY := Lib.hid hyj; clear hyj
          have HST := Lib.hid hstep; clear hstep
          have ax := below_alloc wr (.cells #[.int .i64 y.n, .string y.b] 44)
          have cbx := (blk_keep b0 ax).cell
          go_wp2_with fail
          clear ax cbx
          have hbwb : Below wr.heap.size wr ((wr.alloc (.cells #[.int .i64 y.n, .string y.b] 44)).alloc (.cells #[.int .i64 y.n, .int .i64 p.no] 77)) := below_alloc' (below_alloc _ _) _
          have m0 : Blk ((wr.alloc (.cells #[.int .i64 y.n, .string y.b] 44)).alloc (.cells #[.int .i64 y.n, .int .i64 p.no] 77)) (wr.heap.size) 44 #[.int .i64 y.n, .string y.b] := by
            have hk := blk_alloc (Blk.new wr 44 #[.int .i64 y.n, .string y.b]) (.cells #[.int .i64 y.n, .int .i64 p.no] 77)
            exact hk
          have m1 : Blk ((wr.alloc (.cells #[.int .i64 y.n, .string y.b] 44)).alloc (.cells #[.int .i64 y.n, .int .i64 p.no] 77)) (wr.heap.size + 1) 77 #[.int .i64 y.n, .int .i64 p.no] := by
            have hk := Blk.new (wr.alloc (.cells #[.int .i64 y.n, .string y.b] 44)) 77 #[.int .i64 y.n, .int .i64 p.no]
            simp only [World.size_alloc] at hk
            exact hk
          have hswb : wr.heap.size + 2 ≤ ((wr.alloc (.cells #[.int .i64 y.n, .string y.b] 44)).alloc (.cells #[.int .i64 y.n, .int .i64 p.no] 77)).heap.size := by simp only [World.size_alloc]; omega
          generalize ((wr.alloc (.cells #[.int .i64 y.n, .string y.b] 44)).alloc (.cells #[.int .i64 y.n, .int .i64 p.no] 77)) = wb at *
          have cm0 := m0.cell
          have fm0 := m0.frozen
          have cm1 := m1.cell
          have fm1 := m1.frozen
          replace b0 := blk_keep b0 hbwb
          replace ho := ho.below hbwb
          replace hby := below_below hby hbwb
          obtain ⟨q, hq⟩ := bool_of (spP ⟨y.n, p.no⟩)
          refine (spotOk_any ⟨y.n, p.no⟩ wb q hq).mono ?_
          rintro e w4 ⟨rfl, b4⟩
          replace m1 := blk_keep m1 b4
          replace cm1 := m1.cell
          replace fm1 := m1.frozen
          replace b0 := blk_keep b0 b4
          replace ho := ho.below b4
          replace hby := below_below hby b4
          cases q with
          | false =>
            have hbad : ¬ spP ⟨y.n, p.no⟩ := fun h => by have := hq.2 h; cases this
            have hr0 : r = [] := by
              rcases HR.out with ⟨h, _⟩ | ⟨_, h⟩
              · exact absurd (h _ (spotsTo_sub (k := k) (j := j + 1) _ (by rw [HST.out]; simp))) hbad
              · exact h
            subst hr0
            clear hq hbad
            go_wp2_with fail
            go_ret
            exact ⟨_, rfl, OwnF.nil _ _ _, hby⟩
          | true =>
            have hgood := hq.1 rfl
            have HG := Lib.hid hgood; clear hgood hq
            have HOL : Hid ((spotsTo l k j).length ≤ 4000000) := Lib.hid (by omega)
            have hns : ∀ s ∈ spotsTo l k (j + 1), spP s := fun s hs => by
              rw [HST.out] at hs
              rcases List.mem_append.1 hs with h | h
              · exact HS.out s h
              · rw [List.mem_singleton.1 h]; exact HG.out
            have HNS := Lib.hid hns; clear hns
            clear hlen
            revert ho HOL HST
            generalize spotsTo l k j = L
            intro HST ho HOL
            go_wp2_with (at_builtin; refine app_flat (F := FSp) (v := .slice Ao L.length co) rfl (.tmp 30) (.tmp 32) 24 rfl elem_sp ⟨y.n, p.no⟩ rfl ho rfl rfl (by have := HOL.out; omega) hby.size ?_; intro v8 w8 o8 ch8 at8; obtain ⟨A8, c8, rfl⟩ := o8.form; simp only [List.length_append, List.length_cons, List.length_nil, Nat.zero_add] at o8)
            go_roundw
            case rel =>
              refine ⟨j + 1, by omega, by go_num, by rw [HST.out]; exact o8, HNS.out, hby.trans (ch8.below hby.size fun i hi hs => by have := (ho.at_ hs).1; omega), blk_chg b0 ch8 fun hs => ?_⟩
              obtain ⟨_, cs, hk⟩ := own_ty ho hs
              exact absurd (blk_type b0 hk) (by decide)
            case measure => simp [intOf]; omega
        · obtain rfl : j = p.its.length := by omega
          have he := spotsTo_end HP.out
          have HE := Lib.hid he; clear he
          have HS2 : Hid (∀ s ∈ spots (l.take (k + 1)), spP s) := Lib.hid (by rw [← HE.out]; exact HS.out)
          go_wp2_with fail
          go_roundw
          case rel => exact ⟨k + 1, by omega, by go_num, by rw [← HE.out]; exact ho, HS2.out, hby⟩
          case measure => simp [intOf]; omega
    · obtain rfl : k = l.length := by omega
      have hrr : r = putsS (spots l) [] := by
        have h1 := HS.out
        rw [List.take_length] at h1
        rcases HR.out with ⟨_, h⟩ | ⟨h, _⟩
        · exact h
        · exact absurd h1 h
      have HRR := Lib.hid hrr; clear hrr
      have HSS := HS
      clear HS
      rw [List.take_length] at ho ⊢
      have hgo : ∀ z ∈ spots l, FSp.good z := fun z hz => by
        have h1 := HSS.out
        rw [List.take_length] at h1
        have := h1 z hz; unfold spP at this; show In64 z.n ∧ In64 z.p; unfold In64; omega
      have HGO := Lib.hid hgo; clear hgo HSS
      have hol : (spots l).length ≤ 4000000 := hn
      revert ho; revert hol; revert HGO; revert HRR
      generalize spots l = L
      intro HRR HGO hol ho
      go_wp2_with fail
      have ba := below_alloc wr (.cells #[.slice Ao L.length co] 24)
      have hk1 : Blk (wr.alloc (.cells #[.slice Ao L.length co] 24)) wr.heap.size 24 #[.slice Ao L.length co] := Blk.new _ _ _
      have hs : SlAll (wr.alloc (.cells #[.slice Ao L.length co] 24)) w.heap.size (wr.alloc (.cells #[.slice Ao L.length co] 24)).heap.size [(.slice Ao L.length co, L)] := by
        intro p hp
        simp only [List.mem_cons, List.not_mem_nil, or_false] at hp
        subst hp
        exact (ho.below ba).sl HGO.out (Nat.le_refl _)
      have b02 := below_below hbr ba
      generalize wr.alloc (.cells #[.slice Ao L.length co] 24) = w3 at *
      refine (treeOf_any [(.slice Ao L.length co, L)] wr.heap.size 1 w3 _ _ (Nat.le_refl _) hk1 hs (by simp) (by simp) (by simp)).mono ?_
      rintro e w4 ⟨t, rfl, ht, b4⟩
      have hlist : t.list = r := by
        rw [ht.list, HRR.out]
        show putsS (L ++ []) [] = _
        rw [List.append_nil]
      have hsz : t.size ≤ 100000000 := by
        rw [← Tr.list_len, hlist, HRR.out]
        have := putsS_len (a := L) (l := [])
        simp only [List.length_nil, Nat.add_zero] at this
        omega
      have htn := ht.tin
      have HL := Lib.hid hlist; clear hlist hk1 hs ba
      go_wp2_with fail
      refine (list_any t w4 w4.heap.size _ [] (Nat.le_refl _) (OwnF.nil _ _ _) htn (by simp; omega)).mono ?_
      rintro e w5 ⟨v5, rfl, o5, c5, _⟩
      have b45 : Below w4.heap.size w4 w5 := c5.below (Nat.le_refl _) fun i _ h => (by cases h)
      have b05 := below_below (below_below b02 b4) b45
      rw [List.nil_append, HL.out] at o5
      obtain ⟨A5, c5, rfl⟩ := o5.form
      go_wp2_with fail
      go_ret
      exact ⟨_, rfl, o5.base (Nat.le_trans b02.size b4.size), b05⟩
end Go.Proofs.Ytanppokbjladfaa
