


/- Marks on Pack. -/
import Derived.Test.YtanppokbjladfaaEPack
import Derived.Test.YtanppokbjladfaaMItem
namespace Go.Proofs.Ytanppokbjladfaa
open Go.RowKit

set_option maxHeartbeats 2000000 in
theorem markPackS_any (xs : List Pk) (v : Value) (w : World) (lo hi : Nat) (k : Int) (h : OPks w lo hi xs [v]) (hhi : hi ≤ w.heap.size) (hk : 1 ≤ k) (hk' : k + ((cntS nPk xs : Nat) : Int) ≤ 1099511627776) :
    Calls Try.prog 16 #[v, .int .i64 k] w fun e w' => e = .returned (.int .i64 (k + ((cntS nPk xs : Nat) : Int))) ∧ OPks w' lo hi (markL mPk nPk k xs) [v] ∧ Chg (fun b => lo ≤ b ∧ b < hi ∧ Typed w [37, 44] b) w w' := by
  obtain ⟨A, c, rfl⟩ := ORow.form h
  obtain ⟨_, hc0, hx0⟩ := (OPks.l h).len_
  unfold maxLen at hx0
  go_enter Try.func16, Try.ntmps16
  go_wp2_with fail
  go_loopw [1, 5] (fun kk ii wr => ∃ j : Nat, j ≤ xs.length ∧ ii = .int .i64 j ∧ kk = .int .i64 (k + ((cntTo nPk xs j : Nat) : Int)) ∧ OPks wr lo hi (markTo mPk nPk k xs j) [.slice A xs.length c] ∧ Chg (fun b => lo ≤ b ∧ b < hi ∧ Typed w [37, 44] b) w wr) (fun _ ii _ => xs.length - (intOf ii).toNat)
  case atStart => exact ⟨0, Nat.zero_le _, rfl, by rw [cntTo_zero]; simp, by rw [markTo_zero]; exact h, Chg.refl _ _⟩
  case round =>
    obtain ⟨j, hj, rfl, rfl, ho, hc⟩ := hrel
    have hle := cntTo_le (n := nPk) (l := xs) (j := j)
    by_cases hlt : j < xs.length
    · obtain ⟨x, hxk⟩ := some_of_lt hlt
      have hst := cntTo_step (n := nPk) hxk
      have hle2 := cntTo_le (n := nPk) (l := xs) (j := j + 1)
      have hxm := markTo_get mPk nPk k hxk
      have hstep := markTo_step mPk nPk k hxk
      have hml := markTo_len mPk nPk k xs hj
      obtain ⟨g, c', e, hg1, hg2, hg3, dsg, hgb⟩ := ORow.some_ ho (by rw [hml]; omega)
      simp only [Value.slice.injEq] at e
      obtain ⟨rfl, -, rfl⟩ := e
      have htg : Typed w [37, 44] g := typed_back hc (T := [37, 44]) (fun t ht => ht) hg2 hhi (fun hs => hs.2.2) ⟨_, List.mem_cons_self, dsg, hgb⟩
      have hlm : j < (markTo mPk nPk k xs j).length := by rw [hml]; exact hlt
      obtain ⟨z, hz⟩ : ∃ z : Int, z = k + ((cntTo nPk xs j : Nat) : Int) := ⟨_, rfl⟩
      rw [← hz] at hstep ⊢
      have hz1 : 1 ≤ z := by omega
      have hz2 : z + ((nPk x : Nat) : Int) ≤ 1099511627776 := by omega
      have hz3 : k + ((cntTo nPk xs (j + 1) : Nat) : Int) = z + ((nPk x : Nat) : Int) := by omega
      have HZ := Lib.hid hz3
      have HX := Lib.hid hxk
      have hwr := hc.size
      clear hz hz3 hst hle hle2 hxk hgb dsg hml
      revert ho; revert hxm; revert hlm; revert hstep
      generalize markTo mPk nPk k xs j = M
      generalize hM2 : markTo mPk nPk k xs (j + 1) = M2
      have HM2 := Lib.hid hM2; clear hM2
      intro hstep hlm hxm ho
      have HSTEP := Lib.hid hstep; clear hstep
      have HXM := Lib.hid hxm; clear hxm
      have hin : In64 z := by unfold In64; omega
      have hn2 : ((nPk x : Nat) : Int) = 1 + ((cntS nIt x.its : Nat) : Int) := by unfold nPk; omega
      rw [hn2] at hz2 HZ
      obtain ⟨m, m', es, l1, l2, l3, hl', ⟨v2, rfl, hgd, hrow⟩, hcell, -⟩ := ORow.at_ OPk.tloc (by decide) ho HXM.out
      have hc0' : wr.cell? ⟨g, j * 2, none⟩ = some (.int .i64 x.no) := hcell 0 _ rfl
      have hf0 := ORow.frozen ho (j * 2)
      have hp1 := ORow.put (j := 0) (u := .int .i64 z) OPk.tloc (by decide) ho HXM.out (y := ⟨z, x.its⟩) (by decide) rfl (fun w' lo hi es ⟨v2, he, hg, hr⟩ => ⟨v2, by rw [he]; rfl, hin, hr⟩)
      have hc1 := hc.setCell (p := ⟨g, j * 2, none⟩) (.inl ⟨hg1, hg2, htg⟩) (.int .i64 z)
      have hx1 : (M.set j (⟨z, x.its⟩ : Pk))[j]? = some ⟨z, x.its⟩ := List.getElem?_set_self hlm
      rw [Nat.add_zero] at hp1
      have HX1 := Lib.hid hx1; clear hx1
      clear l1 l2 l3 hcell hrow hgd hl' ho hc
      obtain ⟨m, m', es, l1, l2, l3, hl', ⟨v2, rfl, hgd, hrow2⟩, hcell2, hup⟩ := ORow.at_ OPk.tloc (by decide) hp1 HX1.out
      obtain ⟨A2, c2, rfl⟩ := ORow.form hrow2
      have hcb : (wr.setCell ⟨g, j * 2, none⟩ (.int .i64 z)).cell? ⟨g, j * 2 + 1, none⟩ = some (.slice A2 x.its.length c2) := hcell2 1 _ rfl
      have HUP := Lib.hid hup; clear hup hcell2 hp1
      have HROW := Lib.hid hrow2; clear hrow2
      have HC1 := Lib.hid hc1; clear hc1
      go_wp2_with fail
      generalize wr.setCell ⟨g, j * 2, none⟩ (.int .i64 z) = w1 at *
      have hsz1 := HC1.out.size
      have hrow2 := HROW.out
      refine (markItemS_any x.its _ w1 m m' (z + 1) hrow2 (by omega) (by omega) (by omega)).mono ?_
      rintro e w2 ⟨rfl, o2, ch2⟩
      have hp3 := HUP.out w2 (mPk z x) ch2 ⟨_, rfl, hin, o2⟩
      rw [list_set_set, HSTEP.out] at hp3
      have hc3 := HC1.out.trans ch2 fun b hb hs => ⟨by omega, by omega, typed_back HC1.out (T := [44]) (by simp) (show b < hi by omega) hhi (fun hs => hs.2.2) hs.2.2⟩
      clear ch2
      go_wp2_with fail
      go_roundw
      case rel => exact ⟨j + 1, by omega, by go_num, by rw [HZ.out]; exact congrArg (Value.int .i64) (by omega), by rw [HM2.out]; exact hp3, hc3⟩
      case measure => simp [intOf]; omega
    · obtain rfl : j = xs.length := by omega
      rw [cntTo_all, markTo_all] at *
      go_wp2_with fail
      go_ret
      exact ⟨rfl, ho, hc⟩
set_option maxHeartbeats 2000000 in
theorem heldPackS_any (xs : List Pk) (v : Value) (w : World) (lo hi : Nat) (k : Int) (h : RPksL w lo hi (markL mPk nPk k xs) [v]) (hhi : hi ≤ w.heap.size) (hk : 1 ≤ k) (hk' : k + ((cntS nPk xs : Nat) : Int) ≤ 1099511627776) :
    Calls Try.prog 77 #[v, .int .i64 k] w fun e w' => e = .returned (.int .i64 (k + ((cntS nPk xs : Nat) : Int))) ∧ Below w.heap.size w w' := by
  obtain ⟨A, c, rfl⟩ := RSl.form h
  obtain ⟨_, hc0, hx0⟩ := h.len_
  unfold maxLen at hx0
  rw [markL_len] at *
  go_enter Try.func77, Try.ntmps77
  go_wp2_with fail
  go_loopw [1, 5] (fun kk ii wr => ∃ j : Nat, j ≤ xs.length ∧ ii = .int .i64 j ∧ kk = .int .i64 (k + ((cntTo nPk xs j : Nat) : Int)) ∧ Below w.heap.size w wr) (fun _ ii _ => xs.length - (intOf ii).toNat)
  case atStart => exact ⟨0, Nat.zero_le _, rfl, by rw [cntTo_zero]; simp, Below.refl _ _⟩
  case round =>
    obtain ⟨j, hj, rfl, rfl, hbr⟩ := hrel
    have hle := cntTo_le (n := nPk) (l := xs) (j := j)
    by_cases hlt : j < xs.length
    · obtain ⟨x, hxk⟩ := some_of_lt hlt
      have hst := cntTo_step (n := nPk) hxk
      have hle2 := cntTo_le (n := nPk) (l := xs) (j := j + 1)
      have hmk := markL_get mPk nPk xs k j x hxk
      obtain ⟨z, hz⟩ : ∃ z : Int, z = k + ((cntTo nPk xs j : Nat) : Int) := ⟨_, rfl⟩
      rw [← hz] at hmk ⊢
      have hz1 : 1 ≤ z := by omega
      have hz2 : z + ((nPk x : Nat) : Int) ≤ 1099511627776 := by omega
      have hz3 : k + ((cntTo nPk xs (j + 1) : Nat) : Int) = z + ((nPk x : Nat) : Int) := by omega
      have HZ := Lib.hid hz3
      have HX := Lib.hid hxk
      clear hz hz3 hst hle hle2 hxk
      have hn2 : ((nPk x : Nat) : Int) = 1 + ((cntS nIt x.its : Nat) : Int) := by unfold nPk; omega
      rw [hn2] at hz2 HZ
      obtain ⟨b, off, es, rfl, _, hbb, _, ⟨v2, rfl, hgd, hr⟩, hcc⟩ := (RPksL.loc.below h hbr hhi).at_ hmk
      have hr2 : RItsL wr lo hi (markL mIt nIt (z + 1) x.its) [v2] := hr
      obtain ⟨A2, c2, rfl⟩ := RSl.form hr2
      have hc0 : wr.cell? ⟨b, off + j * 2, none⟩ = some (.int .i64 z) := by simpa using hcc 0 (.int .i64 z) rfl
      have hc1 : wr.cell? ⟨b, off + j * 2 + 1, none⟩ = some (.slice A2 (markL mIt nIt (z + 1) x.its).length c2) := by simpa using hcc 1 (.slice A2 (markL mIt nIt (z + 1) x.its).length c2) rfl
      rw [markL_len] at hc1 hr2
      have HMK := Lib.hid hmk; clear hmk hcc hr
      have HR2 := Lib.hid hr2; clear hr2
      have tz : (z != z) = false := by simp
      go_wp2_with fail
      have hr2 := HR2.out
      refine (heldItemS_any x.its _ _ lo hi (z + 1) hr2 (Nat.le_trans hhi hbr.size) (by omega) (by omega)).mono ?_
      rintro e w2 ⟨rfl, b2⟩
      go_wp2_with fail
      go_roundw
      case rel => exact ⟨j + 1, by omega, by go_num, by rw [HZ.out]; exact congrArg (Value.int .i64) (by omega), below_below hbr b2⟩
      case measure => simp [intOf]; omega
    · obtain rfl : j = xs.length := by omega
      rw [cntTo_all]
      go_wp2_with fail
      go_ret
      exact ⟨rfl, hbr⟩
end Go.Proofs.Ytanppokbjladfaa
