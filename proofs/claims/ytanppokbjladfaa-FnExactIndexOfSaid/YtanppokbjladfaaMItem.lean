


/- Marks on Item. -/
import Derived.Test.YtanppokbjladfaaEItem
namespace Go.Proofs.Ytanppokbjladfaa
open Go.RowKit

set_option maxHeartbeats 2000000 in
theorem markItemS_any (xs : List It) (v : Value) (w : World) (lo hi : Nat) (k : Int) (h : OIts w lo hi xs [v]) (hhi : hi ≤ w.heap.size) (hk : 1 ≤ k) (hk' : k + ((cntS nIt xs : Nat) : Int) ≤ 1099511627776) :
    Calls Try.prog 51 #[v, .int .i64 k] w fun e w' => e = .returned (.int .i64 (k + ((cntS nIt xs : Nat) : Int))) ∧ OIts w' lo hi (markL mIt nIt k xs) [v] ∧ Chg (fun b => lo ≤ b ∧ b < hi ∧ Typed w [44] b) w w' := by
  obtain ⟨A, c, rfl⟩ := ORow.form h
  obtain ⟨_, hc0, hx0⟩ := (OIts.l h).len_
  unfold maxLen at hx0
  go_enter Try.func51, Try.ntmps51
  go_wp2_with fail
  go_loopw [1, 5] (fun kk ii wr => ∃ j : Nat, j ≤ xs.length ∧ ii = .int .i64 j ∧ kk = .int .i64 (k + ((cntTo nIt xs j : Nat) : Int)) ∧ OIts wr lo hi (markTo mIt nIt k xs j) [.slice A xs.length c] ∧ Chg (fun b => lo ≤ b ∧ b < hi ∧ Typed w [44] b) w wr) (fun _ ii _ => xs.length - (intOf ii).toNat)
  case atStart => exact ⟨0, Nat.zero_le _, rfl, by rw [cntTo_zero]; simp, by rw [markTo_zero]; exact h, Chg.refl _ _⟩
  case round =>
    obtain ⟨j, hj, rfl, rfl, ho, hc⟩ := hrel
    have hle := cntTo_le (n := nIt) (l := xs) (j := j)
    by_cases hlt : j < xs.length
    · obtain ⟨x, hxk⟩ := some_of_lt hlt
      have hst := cntTo_step (n := nIt) hxk
      have hle2 := cntTo_le (n := nIt) (l := xs) (j := j + 1)
      have hxm := markTo_get mIt nIt k hxk
      have hstep := markTo_step mIt nIt k hxk
      have hml := markTo_len mIt nIt k xs hj
      obtain ⟨g, c', e, hg1, hg2, hg3, dsg, hgb⟩ := ORow.some_ ho (by rw [hml]; omega)
      simp only [Value.slice.injEq] at e
      obtain ⟨rfl, -, rfl⟩ := e
      have htg : Typed w [44] g := typed_back hc (T := [44]) (fun t ht => ht) hg2 hhi (fun hs => hs.2.2) ⟨_, List.mem_cons_self, dsg, hgb⟩
      have hlm : j < (markTo mIt nIt k xs j).length := by rw [hml]; exact hlt
      obtain ⟨z, hz⟩ : ∃ z : Int, z = k + ((cntTo nIt xs j : Nat) : Int) := ⟨_, rfl⟩
      rw [← hz] at hstep ⊢
      have hz1 : 1 ≤ z := by omega
      have hz2 : z + ((nIt x : Nat) : Int) ≤ 1099511627776 := by omega
      have hz3 : k + ((cntTo nIt xs (j + 1) : Nat) : Int) = z + ((nIt x : Nat) : Int) := by omega
      have HZ := Lib.hid hz3
      have HX := Lib.hid hxk
      have hwr := hc.size
      clear hz hz3 hst hle hle2 hxk hgb dsg hml
      revert ho; revert hxm; revert hlm; revert hstep
      generalize markTo mIt nIt k xs j = M
      generalize hM2 : markTo mIt nIt k xs (j + 1) = M2
      have HM2 := Lib.hid hM2; clear hM2
      intro hstep hlm hxm ho
      have HSTEP := Lib.hid hstep; clear hstep
      have HXM := Lib.hid hxm; clear hxm
      have hin : In64 z := by unfold In64; omega
      have hn2 : ((nIt x : Nat) : Int) = 2 := rfl
      rw [hn2] at hz2 HZ
      obtain ⟨m, m', es, l1, l2, l3, hl, ⟨rfl, hgd⟩, hcell, -⟩ := ORow.at_ (RFlat.tloc FIt) (by decide) ho HXM.out
      have hc0 : wr.cell? ⟨g, j * 2, none⟩ = some (.int .i64 x.n) := hcell 0 _ rfl
      have hf0 := ORow.frozen ho (j * 2)
      have hp1 := ORow.put (j := 0) (u := .int .i64 z) (RFlat.tloc FIt) (by decide) ho HXM.out (y := ⟨z, x.b⟩) (by decide) rfl (fun w' lo hi es hh => ⟨by rw [hh.1]; rfl, hin, hh.2.2⟩)
      have hc1 := hc.setCell (p := ⟨g, j * 2, none⟩) (.inl ⟨hg1, hg2, htg⟩) (.int .i64 z)
      have hx1 : (M.set j (⟨z, x.b⟩ : It))[j]? = some ⟨z, x.b⟩ := List.getElem?_set_self hlm
      rw [Nat.add_zero] at hp1
      have HX1 := Lib.hid hx1; clear hx1
      clear ho hc hcell
      go_wp2_with fail
      generalize wr.setCell ⟨g, j * 2, none⟩ (.int .i64 z) = w1 at *
      have hsz1 := hc1.size
      refine (markText_any (z + 1) w1 (by omega) (by omega)).mono ?_
      rintro e w2 ⟨rfl, b2⟩
      have hp2 := OIts.tloc.below hp1 b2 (by omega)
      have hc2 := hc1.trans (Chg.of_below (S := fun _ => False) b2) fun _ _ h => h.elim
      obtain ⟨m, m', es, l1, l2, l3, hl, ⟨rfl, hgd2⟩, hcell2, -⟩ := ORow.at_ (RFlat.tloc FIt) (by decide) hp2 HX1.out
      have hcb : w2.cell? ⟨g, j * 2 + 1, none⟩ = some (.string x.b) := hcell2 1 _ rfl
      have hfb := ORow.frozen hp2 (j * 2 + 1)
      have hp3 := ORow.put (j := 1) (u := .string (mt (z + 1))) (RFlat.tloc FIt) (by decide) hp2 HX1.out (y := mIt z x) (by decide) rfl (fun w' lo hi es hh => ⟨by rw [hh.1]; rfl, hin, mt_size _⟩)
      rw [list_set_set, HSTEP.out] at hp3
      have hc3 := hc2.setCell (p := ⟨g, j * 2 + 1, none⟩) (.inl ⟨hg1, hg2, htg⟩) (.string (mt (z + 1)))
      clear hp1 hp2 hc1 hc2 hcell2
      go_wp2_with fail
      go_roundw
      case rel => exact ⟨j + 1, by omega, by go_num, by rw [HZ.out]; go_num, by rw [HM2.out]; exact hp3, hc3⟩
      case measure => simp [intOf]; omega
    · obtain rfl : j = xs.length := by omega
      rw [cntTo_all, markTo_all] at *
      go_wp2_with fail
      go_ret
      exact ⟨rfl, ho, hc⟩
set_option maxHeartbeats 2000000 in
theorem heldItemS_any (xs : List It) (v : Value) (w : World) (lo hi : Nat) (k : Int) (h : RItsL w lo hi (markL mIt nIt k xs) [v]) (hhi : hi ≤ w.heap.size) (hk : 1 ≤ k) (hk' : k + ((cntS nIt xs : Nat) : Int) ≤ 1099511627776) :
    Calls Try.prog 118 #[v, .int .i64 k] w fun e w' => e = .returned (.int .i64 (k + ((cntS nIt xs : Nat) : Int))) ∧ Below w.heap.size w w' := by
  obtain ⟨A, c, rfl⟩ := RSl.form h
  obtain ⟨_, hc0, hx0⟩ := h.len_
  unfold maxLen at hx0
  rw [markL_len] at *
  go_enter Try.func118, Try.ntmps118
  go_wp2_with fail
  go_loopw [1, 5] (fun kk ii wr => ∃ j : Nat, j ≤ xs.length ∧ ii = .int .i64 j ∧ kk = .int .i64 (k + ((cntTo nIt xs j : Nat) : Int)) ∧ Below w.heap.size w wr) (fun _ ii _ => xs.length - (intOf ii).toNat)
  case atStart => exact ⟨0, Nat.zero_le _, rfl, by rw [cntTo_zero]; simp, Below.refl _ _⟩
  case round =>
    obtain ⟨j, hj, rfl, rfl, hbr⟩ := hrel
    have hle := cntTo_le (n := nIt) (l := xs) (j := j)
    by_cases hlt : j < xs.length
    · obtain ⟨x, hxk⟩ := some_of_lt hlt
      have hst := cntTo_step (n := nIt) hxk
      have hle2 := cntTo_le (n := nIt) (l := xs) (j := j + 1)
      have hmk := markL_get mIt nIt xs k j x hxk
      obtain ⟨z, hz⟩ : ∃ z : Int, z = k + ((cntTo nIt xs j : Nat) : Int) := ⟨_, rfl⟩
      rw [← hz] at hmk ⊢
      have hz1 : 1 ≤ z := by omega
      have hz2 : z + ((nIt x : Nat) : Int) ≤ 1099511627776 := by omega
      have hz3 : k + ((cntTo nIt xs (j + 1) : Nat) : Int) = z + ((nIt x : Nat) : Int) := by omega
      have HZ := Lib.hid hz3
      have HX := Lib.hid hxk
      clear hz hz3 hst hle hle2 hxk
      have hn2 : ((nIt x : Nat) : Int) = 2 := rfl
      rw [hn2] at hz2 HZ
      obtain ⟨b, off, es, rfl, _, hbb, _, ⟨rfl, hgd⟩, hcc⟩ := (RItsL.loc.below h hbr hhi).at_ hmk
      have hc0 : wr.cell? ⟨b, off + j * 2, none⟩ = some (.int .i64 z) := by simpa using hcc 0 (.int .i64 z) rfl
      have hc1 : wr.cell? ⟨b, off + j * 2 + 1, none⟩ = some (.string (mt (z + 1))) := by simpa using hcc 1 (.string (mt (z + 1))) rfl
      have HMK := Lib.hid hmk; clear hmk hcc
      have tz : (z != z) = false := by simp
      have ts : ((mt (z + 1)).toList == (mt (z + 1)).toList) = true := by simp
      go_wp2_with fail
      have past0 := past_cell hc0
      have past1 := past_cell hc1
      refine region_past (by kernel_rfl) (by kernel_rfl) ?_
      repeat (go_big_quiet_step (first | (go_at_call 85; refine past_call (markText_any (z + 1) _ (by omega) (by omega)))))
      refine wpQuiet_nil ?_
      intro wq hw1
      have hq := past_out hw1
      clear hw1 past0 past1
      replace hbr := below_below hbr hq
      clear hc0 hc1
      go_wp2_with fail
      go_roundw
      case rel => exact ⟨j + 1, by omega, by go_num, by rw [HZ.out]; exact congrArg (Value.int .i64) (by omega), hbr⟩
      case measure => simp [intOf]; omega
    · obtain rfl : j = xs.length := by omega
      rw [cntTo_all]
      go_wp2_with fail
      go_ret
      exact ⟨rfl, hbr⟩
end Go.Proofs.Ytanppokbjladfaa
