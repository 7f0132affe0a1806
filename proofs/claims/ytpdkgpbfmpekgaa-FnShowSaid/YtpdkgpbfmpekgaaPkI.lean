


/- The index of packs, by the reference and by the program; the names of a pack. -/
import Derived.Test.YtpdkgpbfmpekgaaPk
import Derived.Test.YtpdkgpbfmpekgaaIxF
import Derived.Test.YtpdkgpbfmpekgaaEf
namespace Go.Proofs.Ytpdkgpbfmpekgaa
open Go.RowKit

set_option maxHeartbeats 8000000 in
theorem specIndexOf_any (l : List Pk) (v : Value) (w : World) (lo hi : Nat) (hhi : hi ≤ w.heap.size) (h : RPks w lo hi l [v]) (hn : (spots l).length ≤ 4000000) (r : List Sp) (hr : IOf l r) :
    Calls Try.prog 54 #[v] w (NewSp w r) := by
  obtain ⟨A, c, rfl⟩ := h.form
  obtain ⟨_, hc, hx⟩ := h.len_
  unfold maxLen at hx
  have HR := Lib.hid hr; clear hr
  go_enter Try.func54, Try.ntmps54
  go_wp2_with fail
  have ba := below_alloc w (.cells #[] 119)
  have l0 : OwnF FSp 119 (w.alloc (.cells #[] 119)) w.heap.size (.slice (some ⟨w.heap.size, 0, none⟩) 0 0) [] := OwnF.lit0 (Lit0.new _ _ (Nat.le_refl _))
  generalize w.alloc (.cells #[] 119) = w0 at *
  go_loopw [3, 4] (fun oo ii wr => ∃ k : Nat, k ≤ l.length ∧ ii = .int .i64 k ∧ OwnF FSp 119 wr w.heap.size oo (putsS (spots (l.take k)) []) ∧ (∀ s ∈ spots (l.take k), spP s) ∧ Below w.heap.size w wr) (fun oo ii _ => l.length - (intOf ii).toNat)
  case atStart => exact ⟨0, Nat.zero_le _, rfl, l0, fun s hs => (by cases hs), ba⟩
  case round =>
    clear l0 ba
    obtain ⟨k, hk, rfl, ho, hs, hbr⟩ := hrel
    have HS := Lib.hid hs; clear hs
    have g2 := RPks.tloc.below h hbr hhi
    by_cases hlt : k < l.length
    · obtain ⟨p, hpk⟩ := some_of_lt hlt
      have HP := Lib.hid hpk; clear hpk
      have HS0 : Hid (∀ s ∈ spotsTo l k 0, spP s) := Lib.hid (by rw [spotsTo_zero]; exact HS.out)
      rw [← spotsTo_zero] at ho
      obtain ⟨Ao, co, rfl⟩ := ho.form
      have ho0 := ho
      clear ho HS
      go_wp2_with fail
      go_loopw [3, 5] (fun oo jj wy => ∃ j : Nat, j ≤ p.its.length ∧ jj = .int .i64 j ∧ OwnF FSp 119 wy w.heap.size oo (putsS (spotsTo l k j) []) ∧ (∀ s ∈ spotsTo l k j, spP s) ∧ Below w.heap.size w wy) (fun oo jj _ => p.its.length - (intOf jj).toNat)
      case atStart => exact ⟨0, Nat.zero_le _, rfl, ho0, HS0.out, hbr⟩
      case round =>
        clear ho0 HS0 g2 hbr
        obtain ⟨j, hj, rfl, ho, hs, hby⟩ := hrel
        have HS := Lib.hid hs; clear hs
        obtain ⟨b1, off, A1, c1, rfl, hb1, hb2, hno, cno0, cits0, hits0⟩ := pk_at h HP.out
        have cno := cell_keep hby cno0
        have cits := cell_keep hby cits0
        have hits := RIts.tloc.below hits0 hby hhi
        obtain ⟨_, hc1, hx1⟩ := hits.len_
        unfold maxLen at hx1
        clear cno0 cits0 hits0
        have hlen := spotsTo_len (j := j) HP.out
        have hpl := putsS_len (a := spotsTo l k j) (l := [])
        have hol : (putsS (spotsTo l k j) []).length ≤ 4000000 := by simp only [List.length_nil, Nat.add_zero] at hpl; omega
        clear hpl hlen
        by_cases hjl : j < p.its.length
        · obtain ⟨y, hyj⟩ := some_of_lt hjl
          obtain ⟨b2, off2, rfl, _, _, hy64, cn, cb⟩ := it_at hits hyj
          have hstep := spotsTo_step HP.out hyj
          have HY := Lib.hid hyj; clear hyj
          have HST := Lib.hid hstep; clear hstep
          obtain ⟨Ao, co, rfl⟩ := ho.form
          have HLT := Lib.hid (fun b hb => (ho.at_ (g := b) hb).2)
          go_wp2_with fail
          have past0 := past_cell cno
          have past1 := past_cell cits
          have past2 := past_cell cn
          refine region_pastT 16 [0, 1, 2, 3, 4, 5, 6, 7, 8, 9, 10, 11, 12, 13, 14] [15] (by kernel_rfl) (by kernel_rfl) (by kernel_rfl) ?_
          simp only [pick, List.map, List.getD_cons_zero, List.getD_cons_succ]
          repeat (go_big_quiet_step (fail))
          refine wpQuiet_nil ?_
          clear past0 past1 past2
          apply Exists.intro
          apply past_any (fun v w' => ∃ g, v = .pointer (some ⟨g, 0, none⟩) ∧ wr.heap.size ≤ g ∧ Blk w' g 119 #[.int .i64 0, .int .i64 0])
          · rfl
          · exact fun v x y ⟨g, e, hg, hk⟩ hle => ⟨g, e, hg, blk_keep hk hle⟩
          · intro x hF Qx hQ'
            have hQ := Lib.hid hQ'; clear hQ' hF
            go_wp2_with fail
            exact hQ.out _ _ (below_alloc _ _) ⟨_, rfl, x.ok.size, Blk.new _ _ _⟩
          intro u6
          simp only [Act.put, List.setIfInBounds_toArray, List.set_cons_zero, List.set_cons_succ]
          refine past_end ?_
          intro w2 hb2 xx hxx hF
          dsimp only [allF] at hF
          try rw [hxx] at hF
          clear hxx xx
          obtain ⟨⟨g, rfl, hg, kb⟩, -⟩ := hF
          simp only [List.drop]
          have gw := hby.size
          replace ho := ho.below hb2
          replace hby := below_below hby hb2
          have ckb := kb.cell
          have fkb := kb.frozen
          go_wp2_with fail
          have kb2 := (kb.set_ 0 (.int .i64 y.n)).set_ 1 (.int .i64 p.no)
          simp only [List.setIfInBounds_toArray, List.set_cons_zero, List.set_cons_succ] at kb2
          have hb3 : Below w.heap.size w ((w2.setCell ⟨g, 0, none⟩ (.int .i64 y.n)).setCell ⟨g, 1, none⟩ (.int .i64 p.no)) := (hby.setCell (by dsimp only; omega) _).setCell (by dsimp only; omega) _
          have ho3 : OwnF FSp 119 ((w2.setCell ⟨g, 0, none⟩ (.int .i64 y.n)).setCell ⟨g, 1, none⟩ (.int .i64 p.no)) w.heap.size (.slice Ao (putsS (spotsTo l k j) []).length co) (putsS (spotsTo l k j) []) :=
            (ho.set_ne _ (fun b hb => by have := HLT.out b hb; dsimp only; omega)).set_ne _ (fun b hb => by have := HLT.out b hb; dsimp only; omega)
          clear ckb fkb
          generalize (w2.setCell ⟨g, 0, none⟩ (.int .i64 y.n)).setCell ⟨g, 1, none⟩ (.int .i64 p.no) = w3 at *
          have ckb := kb2.cell
          obtain ⟨q, hq⟩ := bool_of (spP ⟨y.n, p.no⟩)
          refine (l4Spot_any ⟨y.n, p.no⟩ w3 q hq).mono ?_
          rintro e w4 ⟨rfl, b4⟩
          replace kb2 := blk_keep kb2 b4
          have ckb := kb2.cell
          replace ho3 := ho3.below b4
          replace hb3 := below_below hb3 b4
          cases q with
          | false =>
            have hbad : ¬ spP ⟨y.n, p.no⟩ := fun h => by have := hq.2 h; cases this
            have hr0 : r = [] := by
              rcases HR.out with ⟨h, _⟩ | ⟨_, h⟩
              · exact absurd (h _ (spotsTo_sub (k := k) (j := j + 1) _ (by rw [HST.out]; simp))) hbad
              · exact h
            subst hr0
            clear hq hbad
            have ba := below_alloc w4 (.cells #[] 119)
            go_wp2_with fail
            go_ret
            exact ⟨_, rfl, OwnF.lit0 (Lit0.new _ _ (hb3.size)), below_below hb3 ba⟩
          | true =>
            have hgood := hq.1 rfl
            have HG := Lib.hid hgood; clear hgood hq
            have HOL := Lib.hid hol
            have hasc := putsS_asc (a := spotsTo l k j) (l := []) List.Pairwise.nil
            have HASC := Lib.hid hasc; clear hasc
            have hgo : ∀ z ∈ putsS (spotsTo l k j) [], FSp.good z := fun z hz => by
              rcases putsS_mem hz with h | h
              · have := HS.out z h; unfold spP at this; show In64 z.n ∧ In64 z.p; unfold In64; omega
              · cases h
            have HGO := Lib.hid hgo; clear hgo
            have hnx : putsS (spotsTo l k (j + 1)) [] = putS ⟨y.n, p.no⟩ (putsS (spotsTo l k j) []) := by
              rw [HST.out, putsS_append]; rfl
            have HNX := Lib.hid hnx; clear hnx
            have hns : ∀ s ∈ spotsTo l k (j + 1), spP s := fun s hs => by
              rw [HST.out] at hs
              rcases List.mem_append.1 hs with h | h
              · exact HS.out s h
              · rw [List.mem_singleton.1 h]; exact HG.out
            have HNS := Lib.hid hns; clear hns
            revert ho3 HOL HASC HGO HNX
            generalize putsS (spotsTo l k j) [] = L
            intro ho3 HOL HASC HGO HNX
            go_wp2_with fail
            refine (l4Put_any ⟨y.n, p.no⟩ (by have := HG.out; unfold spP at this; unfold In64; omega) L _ w4 _ _ (Nat.le_refl _) (ho3.sl HGO.out (Nat.le_refl _)) HASC.out (by have := HOL.out; omega)).mono ?_
            rintro e w5 ⟨v5, rfl, o5, b5⟩
            obtain ⟨A5, c5, rfl⟩ := o5.form
            go_wp2_with fail
            go_roundw
            case rel => exact ⟨j + 1, by omega, by go_num, by rw [HNX.out]; exact o5.base hb3.size, HNS.out, below_below hb3 b5⟩
            case measure => simp [intOf]; omega
        · obtain rfl : j = p.its.length := by omega
          have he := spotsTo_end HP.out
          have HE := Lib.hid he; clear he
          have HS2 : Hid (∀ s ∈ spots (l.take (k + 1)), spP s) := Lib.hid (by rw [← HE.out]; exact HS.out)
          obtain ⟨Ao, co, rfl⟩ := ho.form
          go_wp2_with fail
          go_roundw
          case rel => exact ⟨k + 1, by omega, by go_num, by rw [← HE.out]; exact ho, HS2.out, hby⟩
          case measure => simp [intOf]; omega
    · obtain rfl : k = l.length := by omega
      have hrr : r = putsS (spots l) [] := by
        have h1 := HS.out
        rw [List.take_length] at h1
        rcases HR.out with ⟨_, h⟩ | ⟨h, _⟩
        · exact h
        · exact absurd h1 h
      have HRR := Lib.hid hrr; clear hrr HS
      rw [List.take_length, ← HRR.out] at ho
      obtain ⟨Ao, co, rfl⟩ := ho.form
      go_wp2_with fail
      go_ret
      exact ⟨_, rfl, ho, hbr⟩
end Go.Proofs.Ytpdkgpbfmpekgaa
