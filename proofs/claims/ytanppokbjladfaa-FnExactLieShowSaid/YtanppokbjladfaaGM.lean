/- MListed, MSnap, MItem, MPack, MHead. -/
import Derived.Test.YtanppokbjladfaaGE



/- Marks on Listed. -/
namespace Go.Proofs.Ytanppokbjladfaa
open Go.RowKit

def nLs (x : Ls) : Nat := 1 + x.ns.length
def mLs (k : Int) (x : Ls) : Ls := ⟨mt k, marks (k + 1) x.ns.length⟩
theorem markIntS_o (xs : List Int) (v : Value) (w : World) (lo hi : Nat) (k : Int) (h : OInts w lo hi xs [v]) (hl : xs.length ≤ 1048576) (hk : 1 ≤ k) (hk' : k + xs.length ≤ 1099511627776) :
    Calls Try.prog 145 #[v, .int .i64 k] w fun e w' => e = .returned (.int .i64 (k + xs.length)) ∧ OInts w' lo hi (marks k xs.length) [v] ∧ Chg (fun b => lo ≤ b ∧ b < hi ∧ Typed w [3] b) w w' := by
  obtain ⟨ho, hg, hle, hhi⟩ := ORow.flat (F := FInt) h
  refine (markIntS_any xs v w lo k (OwnI_iff.2 ho) hl (by omega) (by omega)).mono ?_
  rintro e w1 ⟨rfl, o1, c1⟩
  refine ⟨rfl, (OwnI_iff.1 o1).orow (fun y hy => ?_) hle hhi, c1.mono fun b _ hb => ?_⟩
  · obtain ⟨j, hj⟩ := List.getElem?_of_mem hy
    have hlt := lt_of_some hj
    rw [marks_len] at hlt
    rw [marks_get k _ j hlt] at hj
    simp at hj
    subst hj
    show In64 _
    unfold In64; omega
  · obtain ⟨ds, hd⟩ : ∃ ds, Blk w b 3 ds := by
      rcases ho.2 with ⟨rfl, _⟩ | ⟨g', cap, cur, rfl, _, hk, _⟩
      · cases hb
      · cases hb; exact ⟨_, hk⟩
    exact ⟨(ho.at_ hb).1, hhi b hb, 3, by simp, ds, hd⟩
set_option maxHeartbeats 2000000 in
theorem markListedS_any (xs : List Ls) (v : Value) (w : World) (lo hi : Nat) (k : Int) (h : OLss w lo hi xs [v]) (hhi : hi ≤ w.heap.size) (hl : bulkS bLs xs ≤ 1048576) (hk : 1 ≤ k) (hk' : k + ((cntS nLs xs : Nat) : Int) ≤ 1099511627776) :
    Calls Try.prog 117 #[v, .int .i64 k] w fun e w' => e = .returned (.int .i64 (k + ((cntS nLs xs : Nat) : Int))) ∧ OLss w' lo hi (markL mLs nLs k xs) [v] ∧ Chg (fun b => lo ≤ b ∧ b < hi ∧ Typed w [165, 3] b) w w' := by
  obtain ⟨A, c, rfl⟩ := ORow.form h
  obtain ⟨_, hc0, hx0⟩ := (OLss.l h).len_
  unfold maxLen at hx0
  go_enter Try.func117, Try.ntmps117
  go_wp2_with fail
  go_loopw [1, 5] (fun kk ii wr => ∃ j : Nat, j ≤ xs.length ∧ ii = .int .i64 j ∧ kk = .int .i64 (k + ((cntTo nLs xs j : Nat) : Int)) ∧ OLss wr lo hi (markTo mLs nLs k xs j) [.slice A xs.length c] ∧ Chg (fun b => lo ≤ b ∧ b < hi ∧ Typed w [165, 3] b) w wr) (fun _ ii _ => xs.length - (intOf ii).toNat)
  case atStart => exact ⟨0, Nat.zero_le _, rfl, by rw [cntTo_zero]; simp, by rw [markTo_zero]; exact h, Chg.refl _ _⟩
  case round =>
    obtain ⟨j, hj, rfl, rfl, ho, hc⟩ := hrel
    have hle := cntTo_le (n := nLs) (l := xs) (j := j)
    by_cases hlt : j < xs.length
    · obtain ⟨x, hxk⟩ := some_of_lt hlt
      have hst := cntTo_step (n := nLs) hxk
      have hle2 := cntTo_le (n := nLs) (l := xs) (j := j + 1)
      have hxm := markTo_get mLs nLs k hxk
      have hstep := markTo_step mLs nLs k hxk
      have hml := markTo_len mLs nLs k xs hj
      obtain ⟨g, c', e, hg1, hg2, hg3, dsg, hgb⟩ := ORow.some_ ho (by rw [hml]; omega)
      simp only [Value.slice.injEq] at e
      obtain ⟨rfl, -, rfl⟩ := e
      have htg : Typed w [165, 3] g := typed_back hc (T := [165, 3]) (fun t ht => ht) hg2 hhi (fun hs => hs.2.2) ⟨_, List.mem_cons_self, dsg, hgb⟩
      have hlm : j < (markTo mLs nLs k xs j).length := by rw [hml]; exact hlt
      obtain ⟨z, hz⟩ : ∃ z : Int, z = k + ((cntTo nLs xs j : Nat) : Int) := ⟨_, rfl⟩
      rw [← hz] at hstep ⊢
      have hz1 : 1 ≤ z := by omega
      have hz2 : z + ((nLs x : Nat) : Int) ≤ 1099511627776 := by omega
      have hz3 : k + ((cntTo nLs xs (j + 1) : Nat) : Int) = z + ((nLs x : Nat) : Int) := by omega
      have HZ := Lib.hid hz3
      have HX := Lib.hid hxk
      have hwr := hc.size
      clear hz hz3 hst hle hle2 hxk hgb dsg hml
      revert ho; revert hxm; revert hlm; revert hstep
      generalize markTo mLs nLs k xs j = M
      generalize hM2 : markTo mLs nLs k xs (j + 1) = M2
      have HM2 := Lib.hid hM2; clear hM2
      intro hstep hlm hxm ho
      have HSTEP := Lib.hid hstep; clear hstep
      have HXM := Lib.hid hxm; clear hxm
      have hin : In64 z := by unfold In64; omega
      have hn2 : ((nLs x : Nat) : Int) = 1 + ((x.ns.length : Nat) : Int) := by unfold nLs; omega
      rw [hn2] at hz2 HZ
      go_wp2_with fail
      refine (markText_any z wr hz1 (by omega)).mono ?_
      rintro e w0 ⟨rfl, b0⟩
      replace hc := hc.trans (Chg.of_below (S := fun _ => False) b0) fun _ _ h => h.elim
      replace ho := OLss.tloc.below ho b0 (by omega)
      replace hwr := hc.size
      obtain ⟨m, m', es, l1, l2, l3, hl', ⟨v2, rfl, hgd, hrow⟩, hcell, -⟩ := ORow.at_ OLs.tloc (by decide) ho HXM.out
      have hc0' : w0.cell? ⟨g, j * 2, none⟩ = some (.string x.p) := hcell 0 _ rfl
      have hf0 := ORow.frozen ho (j * 2)
      have hp1 := ORow.put (j := 0) (u := .string (mt z)) OLs.tloc (by decide) ho HXM.out (y := ⟨mt z, x.ns⟩) (by decide) rfl (fun w' lo hi es ⟨v2, he, hg, hr⟩ => ⟨v2, by rw [he]; rfl, mt_size _, hr⟩)
      have hc1 := hc.setCell (p := ⟨g, j * 2, none⟩) (.inl ⟨hg1, hg2, htg⟩) (.string (mt z))
      have hx1 : (M.set j (⟨mt z, x.ns⟩ : Ls))[j]? = some ⟨mt z, x.ns⟩ := List.getElem?_set_self hlm
      rw [Nat.add_zero] at hp1
      have HX1 := Lib.hid hx1; clear hx1
      clear l1 l2 l3 hcell hrow hgd hl' ho hc
      obtain ⟨m, m', es, l1, l2, l3, hl', ⟨v2, rfl, hgd, hrow2⟩, hcell2, hup⟩ := ORow.at_ OLs.tloc (by decide) hp1 HX1.out
      obtain ⟨A2, c2, rfl⟩ := ORow.form hrow2
      have hcb : (w0.setCell ⟨g, j * 2, none⟩ (.string (mt z))).cell? ⟨g, j * 2 + 1, none⟩ = some (.slice A2 x.ns.length c2) := hcell2 1 _ rfl
      have HUP := Lib.hid hup; clear hup hcell2 hp1
      have HROW := Lib.hid hrow2; clear hrow2
      have HC1 := Lib.hid hc1; clear hc1
      go_wp2_with fail
      generalize w0.setCell ⟨g, j * 2, none⟩ (.string (mt z)) = w1 at *
      have hsz1 := HC1.out.size
      have hrow2 := HROW.out
      refine (markIntS_o x.ns _ w1 m m' (z + 1) hrow2 (Nat.le_trans (Nat.le_trans (Nat.le_add_left _ _) (bulkS_mem (f := bLs) (List.mem_of_getElem? HX.out))) hl) (by omega) (by omega)).mono ?_
      rintro e w2 ⟨rfl, o2, ch2⟩
      have hp3 := HUP.out w2 (mLs z x) ch2 ⟨_, rfl, mt_size _, o2⟩
      rw [list_set_set, HSTEP.out] at hp3
      have hc3 := HC1.out.trans ch2 fun b hb hs => ⟨by omega, by omega, typed_back HC1.out (T := [3]) (by simp) (show b < hi by omega) hhi (fun hs => hs.2.2) hs.2.2⟩
      clear ch2
      go_wp2_with fail
      go_roundw
      case rel => exact ⟨j + 1, by omega, by go_num, by rw [HZ.out]; exact congrArg (Value.int .i64) (by omega), by rw [HM2.out]; exact hp3, hc3⟩
      case measure => simp [intOf]; omega
    · obtain rfl : j = xs.length := by omega
      rw [cntTo_all, markTo_all] at *
      go_wp2_with fail
      go_ret
      exact ⟨rfl, ho, hc⟩
set_option maxHeartbeats 2000000 in
theorem heldListedS_any (xs : List Ls) (v : Value) (w : World) (lo hi : Nat) (k : Int) (h : RLssL w lo hi (markL mLs nLs k xs) [v]) (hhi : hi ≤ w.heap.size) (hl : bulkS bLs xs ≤ 1048576) (hk : 1 ≤ k) (hk' : k + ((cntS nLs xs : Nat) : Int) ≤ 1099511627776) :
    Calls Try.prog 119 #[v, .int .i64 k] w fun e w' => e = .returned (.int .i64 (k + ((cntS nLs xs : Nat) : Int))) ∧ Below w.heap.size w w' := by
  obtain ⟨A, c, rfl⟩ := RSl.form h
  obtain ⟨_, hc0, hx0⟩ := h.len_
  unfold maxLen at hx0
  rw [markL_len] at *
  go_enter Try.func119, Try.ntmps119
  go_wp2_with fail
  go_loopw [1, 5] (fun kk ii wr => ∃ j : Nat, j ≤ xs.length ∧ ii = .int .i64 j ∧ kk = .int .i64 (k + ((cntTo nLs xs j : Nat) : Int)) ∧ Below w.heap.size w wr) (fun _ ii _ => xs.length - (intOf ii).toNat)
  case atStart => exact ⟨0, Nat.zero_le _, rfl, by rw [cntTo_zero]; simp, Below.refl _ _⟩
  case round =>
    obtain ⟨j, hj, rfl, rfl, hbr⟩ := hrel
    have hle := cntTo_le (n := nLs) (l := xs) (j := j)
    by_cases hlt : j < xs.length
    · obtain ⟨x, hxk⟩ := some_of_lt hlt
      have hst := cntTo_step (n := nLs) hxk
      have hle2 := cntTo_le (n := nLs) (l := xs) (j := j + 1)
      have hmk := markL_get mLs nLs xs k j x hxk
      obtain ⟨z, hz⟩ : ∃ z : Int, z = k + ((cntTo nLs xs j : Nat) : Int) := ⟨_, rfl⟩
      rw [← hz] at hmk ⊢
      have hz1 : 1 ≤ z := by omega
      have hz2 : z + ((nLs x : Nat) : Int) ≤ 1099511627776 := by omega
      have hz3 : k + ((cntTo nLs xs (j + 1) : Nat) : Int) = z + ((nLs x : Nat) : Int) := by omega
      have HZ := Lib.hid hz3
      have HX := Lib.hid hxk
      clear hz hz3 hst hle hle2 hxk
      have hn2 : ((nLs x : Nat) : Int) = 1 + ((x.ns.length : Nat) : Int) := by unfold nLs; omega
      rw [hn2] at hz2 HZ
      obtain ⟨b, off, es, rfl, _, hbb, _, ⟨v2, rfl, hgd, hr⟩, hcc⟩ := (RLssL.loc.below h hbr hhi).at_ hmk
      have hr2 : RSl RInt 1 wr lo hi (marks (z + 1) x.ns.length) [v2] := hr
      obtain ⟨A2, c2, rfl⟩ := RSl.form hr2
      have hc0 : wr.cell? ⟨b, off + j * 2, none⟩ = some (.string (mt z)) := by simpa using hcc 0 (.string (mt z)) rfl
      have hc1 : wr.cell? ⟨b, off + j * 2 + 1, none⟩ = some (.slice A2 (marks (z + 1) x.ns.length).length c2) := by simpa using hcc 1 (.slice A2 (marks (z + 1) x.ns.length).length c2) rfl
      rw [marks_len] at hc1 hr2
      have HMK := Lib.hid hmk; clear hmk hcc hr
      have HR2 := Lib.hid hr2; clear hr2
      have ts : ((mt z).toList == (mt z).toList) = true := by simp
      go_wp2_with fail
      have hbr0 := hbr
      have past0 := past_cell hc0
      have past1 := past_cell hc1
      refine region_past (by kernel_rfl) (by kernel_rfl) ?_
      repeat (go_big_quiet_step (first | (go_at_call 85; refine past_call (markText_any z _ (by omega) (by omega)))))
      refine wpQuiet_nil ?_
      intro wq hw1
      have hq := past_out hw1
      clear hw1 past0 past1
      have hc1' := cell_keep hq hc1
      have HR3 := Lib.hid (RIntsL.loc.below HR2.out hq (Nat.le_trans hhi hbr.size))
      replace hbr := below_below hbr hq
      clear hc0 hc1
      go_wp2_with fail
      have hr2 := HR3.out
      refine (heldIntS_any x.ns.length _ _ lo hi (z + 1) hr2 (Nat.le_trans (Nat.le_trans (Nat.le_add_left _ _) (bulkS_mem (f := bLs) (List.mem_of_getElem? HX.out))) hl) (by omega) (by omega)).mono ?_
      rintro e w2 ⟨rfl, rfl⟩
      have b2 := Below.refl wq.heap.size wq
      go_wp2_with fail
      go_roundw
      case rel => exact ⟨j + 1, by omega, by go_num, by rw [HZ.out]; exact congrArg (Value.int .i64) (by omega), below_below hbr b2⟩
      case measure => simp [intOf]; omega
    · obtain rfl : j = xs.length := by omega
      rw [cntTo_all]
      go_wp2_with fail
      go_ret
      exact ⟨rfl, hbr⟩
end Go.Proofs.Ytanppokbjladfaa




/- Marks on Snap. -/
namespace Go.Proofs.Ytanppokbjladfaa
open Go.RowKit

def nSn (x : Sn) : Nat := 1 + cntS nLs x.all
def mSn (k : Int) (x : Sn) : Sn := ⟨k, markL mLs nLs (k + 1) x.all⟩
set_option maxHeartbeats 2000000 in
theorem markSnapS_any (xs : List Sn) (v : Value) (w : World) (lo hi : Nat) (k : Int) (h : OSns w lo hi xs [v]) (hhi : hi ≤ w.heap.size) (hl : bulkS bSn xs ≤ 1048576) (hk : 1 ≤ k) (hk' : k + ((cntS nSn xs : Nat) : Int) ≤ 1099511627776) :
    Calls Try.prog 75 #[v, .int .i64 k] w fun e w' => e = .returned (.int .i64 (k + ((cntS nSn xs : Nat) : Int))) ∧ OSns w' lo hi (markL mSn nSn k xs) [v] ∧ Chg (fun b => lo ≤ b ∧ b < hi ∧ Typed w [110, 165, 3] b) w w' := by
  obtain ⟨A, c, rfl⟩ := ORow.form h
  obtain ⟨_, hc0, hx0⟩ := (OSns.l h).len_
  unfold maxLen at hx0
  go_enter Try.func75, Try.ntmps75
  go_wp2_with fail
  go_loopw [1, 5] (fun kk ii wr => ∃ j : Nat, j ≤ xs.length ∧ ii = .int .i64 j ∧ kk = .int .i64 (k + ((cntTo nSn xs j : Nat) : Int)) ∧ OSns wr lo hi (markTo mSn nSn k xs j) [.slice A xs.length c] ∧ Chg (fun b => lo ≤ b ∧ b < hi ∧ Typed w [110, 165, 3] b) w wr) (fun _ ii _ => xs.length - (intOf ii).toNat)
  case atStart => exact ⟨0, Nat.zero_le _, rfl, by rw [cntTo_zero]; simp, by rw [markTo_zero]; exact h, Chg.refl _ _⟩
  case round =>
    obtain ⟨j, hj, rfl, rfl, ho, hc⟩ := hrel
    have hle := cntTo_le (n := nSn) (l := xs) (j := j)
    by_cases hlt : j < xs.length
    · obtain ⟨x, hxk⟩ := some_of_lt hlt
      have hst := cntTo_step (n := nSn) hxk
      have hle2 := cntTo_le (n := nSn) (l := xs) (j := j + 1)
      have hxm := markTo_get mSn nSn k hxk
      have hstep := markTo_step mSn nSn k hxk
      have hml := markTo_len mSn nSn k xs hj
      obtain ⟨g, c', e, hg1, hg2, hg3, dsg, hgb⟩ := ORow.some_ ho (by rw [hml]; omega)
      simp only [Value.slice.injEq] at e
      obtain ⟨rfl, -, rfl⟩ := e
      have htg : Typed w [110, 165, 3] g := typed_back hc (T := [110, 165, 3]) (fun t ht => ht) hg2 hhi (fun hs => hs.2.2) ⟨_, List.mem_cons_self, dsg, hgb⟩
      have hlm : j < (markTo mSn nSn k xs j).length := by rw [hml]; exact hlt
      obtain ⟨z, hz⟩ : ∃ z : Int, z = k + ((cntTo nSn xs j : Nat) : Int) := ⟨_, rfl⟩
      rw [← hz] at hstep ⊢
      have hz1 : 1 ≤ z := by omega
      have hz2 : z + ((nSn x : Nat) : Int) ≤ 1099511627776 := by omega
      have hz3 : k + ((cntTo nSn xs (j + 1) : Nat) : Int) = z + ((nSn x : Nat) : Int) := by omega
      have HZ := Lib.hid hz3
      have HX := Lib.hid hxk
      have hwr := hc.size
      clear hz hz3 hst hle hle2 hxk hgb dsg hml
      revert ho; revert hxm; revert hlm; revert hstep
      generalize markTo mSn nSn k xs j = M
      generalize hM2 : markTo mSn nSn k xs (j + 1) = M2
      have HM2 := Lib.hid hM2; clear hM2
      intro hstep hlm hxm ho
      have HSTEP := Lib.hid hstep; clear hstep
      have HXM := Lib.hid hxm; clear hxm
      have hin : In64 z := by unfold In64; omega
      have hn2 : ((nSn x : Nat) : Int) = 1 + ((cntS nLs x.all : Nat) : Int) := by unfold nSn; omega
      rw [hn2] at hz2 HZ
      obtain ⟨m, m', es, l1, l2, l3, hl', ⟨v2, rfl, hgd, hrow⟩, hcell, -⟩ := ORow.at_ OSn.tloc (by decide) ho HXM.out
      have hc0' : wr.cell? ⟨g, j * 2, none⟩ = some (.int .i64 x.no) := hcell 0 _ rfl
      have hf0 := ORow.frozen ho (j * 2)
      have hp1 := ORow.put (j := 0) (u := .int .i64 z) OSn.tloc (by decide) ho HXM.out (y := ⟨z, x.all⟩) (by decide) rfl (fun w' lo hi es ⟨v2, he, hg, hr⟩ => ⟨v2, by rw [he]; rfl, hin, hr⟩)
      have hc1 := hc.setCell (p := ⟨g, j * 2, none⟩) (.inl ⟨hg1, hg2, htg⟩) (.int .i64 z)
      have hx1 : (M.set j (⟨z, x.all⟩ : Sn))[j]? = some ⟨z, x.all⟩ := List.getElem?_set_self hlm
      rw [Nat.add_zero] at hp1
      have HX1 := Lib.hid hx1; clear hx1
      clear l1 l2 l3 hcell hrow hgd hl' ho hc
      obtain ⟨m, m', es, l1, l2, l3, hl', ⟨v2, rfl, hgd, hrow2⟩, hcell2, hup⟩ := ORow.at_ OSn.tloc (by decide) hp1 HX1.out
      obtain ⟨A2, c2, rfl⟩ := ORow.form hrow2
      have hcb : (wr.setCell ⟨g, j * 2, none⟩ (.int .i64 z)).cell? ⟨g, j * 2 + 1, none⟩ = some (.slice A2 x.all.length c2) := hcell2 1 _ rfl
      have HUP := Lib.hid hup; clear hup hcell2 hp1
      have HROW := Lib.hid hrow2; clear hrow2
      have HC1 := Lib.hid hc1; clear hc1
      go_wp2_with fail
      generalize wr.setCell ⟨g, j * 2, none⟩ (.int .i64 z) = w1 at *
      have hsz1 := HC1.out.size
      have hrow2 := HROW.out
      refine (markListedS_any x.all _ w1 m m' (z + 1) hrow2 (by omega) (Nat.le_trans (bulkS_mem (f := bSn) (List.mem_of_getElem? HX.out)) hl) (by omega) (by omega)).mono ?_
      rintro e w2 ⟨rfl, o2, ch2⟩
      have hp3 := HUP.out w2 (mSn z x) ch2 ⟨_, rfl, hin, o2⟩
      rw [list_set_set, HSTEP.out] at hp3
      have hc3 := HC1.out.trans ch2 fun b hb hs => ⟨by omega, by omega, typed_back HC1.out (T := [165, 3]) (by simp) (show b < hi by omega) hhi (fun hs => hs.2.2) hs.2.2⟩
      clear ch2
      go_wp2_with fail
      go_roundw
      case rel => exact ⟨j + 1, by omega, by go_num, by rw [HZ.out]; exact congrArg (Value.int .i64) (by omega), by rw [HM2.out]; exact hp3, hc3⟩
      case measure => simp [intOf]; omega
    · obtain rfl : j = xs.length := by omega
      rw [cntTo_all, markTo_all] at *
      go_wp2_with fail
      go_ret
      exact ⟨rfl, ho, hc⟩
set_option maxHeartbeats 2000000 in
theorem heldSnapS_any (xs : List Sn) (v : Value) (w : World) (lo hi : Nat) (k : Int) (h : RSnsL w lo hi (markL mSn nSn k xs) [v]) (hhi : hi ≤ w.heap.size) (hl : bulkS bSn xs ≤ 1048576) (hk : 1 ≤ k) (hk' : k + ((cntS nSn xs : Nat) : Int) ≤ 1099511627776) :
    Calls Try.prog 78 #[v, .int .i64 k] w fun e w' => e = .returned (.int .i64 (k + ((cntS nSn xs : Nat) : Int))) ∧ Below w.heap.size w w' := by
  obtain ⟨A, c, rfl⟩ := RSl.form h
  obtain ⟨_, hc0, hx0⟩ := h.len_
  unfold maxLen at hx0
  rw [markL_len] at *
  go_enter Try.func78, Try.ntmps78
  go_wp2_with fail
  go_loopw [1, 5] (fun kk ii wr => ∃ j : Nat, j ≤ xs.length ∧ ii = .int .i64 j ∧ kk = .int .i64 (k + ((cntTo nSn xs j : Nat) : Int)) ∧ Below w.heap.size w wr) (fun _ ii _ => xs.length - (intOf ii).toNat)
  case atStart => exact ⟨0, Nat.zero_le _, rfl, by rw [cntTo_zero]; simp, Below.refl _ _⟩
  case round =>
    obtain ⟨j, hj, rfl, rfl, hbr⟩ := hrel
    have hle := cntTo_le (n := nSn) (l := xs) (j := j)
    by_cases hlt : j < xs.length
    · obtain ⟨x, hxk⟩ := some_of_lt hlt
      have hst := cntTo_step (n := nSn) hxk
      have hle2 := cntTo_le (n := nSn) (l := xs) (j := j + 1)
      have hmk := markL_get mSn nSn xs k j x hxk
      obtain ⟨z, hz⟩ : ∃ z : Int, z = k + ((cntTo nSn xs j : Nat) : Int) := ⟨_, rfl⟩
      rw [← hz] at hmk ⊢
      have hz1 : 1 ≤ z := by omega
      have hz2 : z + ((nSn x : Nat) : Int) ≤ 1099511627776 := by omega
      have hz3 : k + ((cntTo nSn xs (j + 1) : Nat) : Int) = z + ((nSn x : Nat) : Int) := by omega
      have HZ := Lib.hid hz3
      have HX := Lib.hid hxk
      clear hz hz3 hst hle hle2 hxk
      have hn2 : ((nSn x : Nat) : Int) = 1 + ((cntS nLs x.all : Nat) : Int) := by unfold nSn; omega
      rw [hn2] at hz2 HZ
      obtain ⟨b, off, es, rfl, _, hbb, _, ⟨v2, rfl, hgd, hr⟩, hcc⟩ := (RSnsL.loc.below h hbr hhi).at_ hmk
      have hr2 : RLssL wr lo hi (markL mLs nLs (z + 1) x.all) [v2] := hr
      obtain ⟨A2, c2, rfl⟩ := RSl.form hr2
      have hc0 : wr.cell? ⟨b, off + j * 2, none⟩ = some (.int .i64 z) := by simpa using hcc 0 (.int .i64 z) rfl
      have hc1 : wr.cell? ⟨b, off + j * 2 + 1, none⟩ = some (.slice A2 (markL mLs nLs (z + 1) x.all).length c2) := by simpa using hcc 1 (.slice A2 (markL mLs nLs (z + 1) x.all).length c2) rfl
      rw [markL_len] at hc1 hr2
      have HMK := Lib.hid hmk; clear hmk hcc hr
      have HR2 := Lib.hid hr2; clear hr2
      have tz : (z != z) = false := by simp
      go_wp2_with fail
      have hr2 := HR2.out
      refine (heldListedS_any x.all _ _ lo hi (z + 1) hr2 (Nat.le_trans hhi hbr.size) (Nat.le_trans (bulkS_mem (f := bSn) (List.mem_of_getElem? HX.out)) hl) (by omega) (by omega)).mono ?_
      rintro e w2 ⟨rfl, b2⟩
      go_wp2_with fail
      go_roundw
      case rel => exact ⟨j + 1, by omega, by go_num, by rw [HZ.out]; exact congrArg (Value.int .i64) (by omega), below_below hbr b2⟩
      case measure => simp [intOf]; omega
    · obtain rfl : j = xs.length := by omega
      rw [cntTo_all]
      go_wp2_with fail
      go_ret
      exact ⟨rfl, hbr⟩
end Go.Proofs.Ytanppokbjladfaa




/- Marks on Item. -/
namespace Go.Proofs.Ytanppokbjladfaa
open Go.RowKit

set_option maxHeartbeats 2000000 in
theorem markItemS_any (xs : List It) (v : Value) (w : World) (lo hi : Nat) (k : Int) (h : OIts w lo hi xs [v]) (hhi : hi ≤ w.heap.size) (hk : 1 ≤ k) (hk' : k + ((cntS nIt xs : Nat) : Int) ≤ 1099511627776) :
    Calls Try.prog 51 #[v, .int .i64 k] w fun e w' => e = .returned (.int .i64 (k + ((cntS nIt xs : Nat) : Int))) ∧ OIts w' lo hi (markL mIt nIt k xs) [v] ∧ Chg (fun b => lo ≤ b ∧ b < hi ∧ Typed w [44] b) w w' := by
  obtain ⟨A, c, rfl⟩ := ORow.form h
  obtain ⟨_, hc0, hx0⟩ := (OIts.l h).len_
  unfold maxLen at hx0
  go_enter Try.func51, Try.ntmps51
  go_wp2_with fail
  go_loopw [1, 5] (fun kk ii wr => ∃ j : Nat, j ≤ xs.length ∧ ii = .int .i64 j ∧ kk = .int .i64 (k + ((cntTo nIt xs j : Nat) : Int)) ∧ OIts wr lo hi (markTo mIt nIt k xs j) [.slice A xs.length c] ∧ Chg (fun b => lo ≤ b ∧ b < hi ∧ Typed w [44] b) w wr) (fun _ ii _ => xs.length - (intOf ii).toNat)
  case atStart => exact ⟨0, Nat.zero_le _, rfl, by rw [cntTo_zero]; simp, by rw [markTo_zero]; exact h, Chg.refl _ _⟩
  case round =>
    obtain ⟨j, hj, rfl, rfl, ho, hc⟩ := hrel
    have hle := cntTo_le (n := nIt) (l := xs) (j := j)
    by_cases hlt : j < xs.length
    · obtain ⟨x, hxk⟩ := some_of_lt hlt
      have hst := cntTo_step (n := nIt) hxk
      have hle2 := cntTo_le (n := nIt) (l := xs) (j := j + 1)
      have hxm := markTo_get mIt nIt k hxk
      have hstep := markTo_step mIt nIt k hxk
      have hml := markTo_len mIt nIt k xs hj
      obtain ⟨g, c', e, hg1, hg2, hg3, dsg, hgb⟩ := ORow.some_ ho (by rw [hml]; omega)
      simp only [Value.slice.injEq] at e
      obtain ⟨rfl, -, rfl⟩ := e
      have htg : Typed w [44] g := typed_back hc (T := [44]) (fun t ht => ht) hg2 hhi (fun hs => hs.2.2) ⟨_, List.mem_cons_self, dsg, hgb⟩
      have hlm : j < (markTo mIt nIt k xs j).length := by rw [hml]; exact hlt
      obtain ⟨z, hz⟩ : ∃ z : Int, z = k + ((cntTo nIt xs j : Nat) : Int) := ⟨_, rfl⟩
      rw [← hz] at hstep ⊢
      have hz1 : 1 ≤ z := by omega
      have hz2 : z + ((nIt x : Nat) : Int) ≤ 1099511627776 := by omega
      have hz3 : k + ((cntTo nIt xs (j + 1) : Nat) : Int) = z + ((nIt x : Nat) : Int) := by omega
      have HZ := Lib.hid hz3
      have HX := Lib.hid hxk
      have hwr := hc.size
      clear hz hz3 hst hle hle2 hxk hgb dsg hml
      revert ho; revert hxm; revert hlm; revert hstep
      generalize markTo mIt nIt k xs j = M
      generalize hM2 : markTo mIt nIt k xs (j + 1) = M2
      have HM2 := Lib.hid hM2; clear hM2
      intro hstep hlm hxm ho
      have HSTEP := Lib.hid hstep; clear hstep
      have HXM := Lib.hid hxm; clear hxm
      have hin : In64 z := by unfold In64; omega
      have hn2 : ((nIt x : Nat) : Int) = 2 := rfl
      rw [hn2] at hz2 HZ
      obtain ⟨m, m', es, l1, l2, l3, hl, ⟨rfl, hgd⟩, hcell, -⟩ := ORow.at_ (RFlat.tloc FIt) (by decide) ho HXM.out
      have hc0 : wr.cell? ⟨g, j * 2, none⟩ = some (.int .i64 x.n) := hcell 0 _ rfl
      have hf0 := ORow.frozen ho (j * 2)
      have hp1 := ORow.put (j := 0) (u := .int .i64 z) (RFlat.tloc FIt) (by decide) ho HXM.out (y := ⟨z, x.b⟩) (by decide) rfl (fun w' lo hi es hh => ⟨by rw [hh.1]; rfl, hin, hh.2.2⟩)
      have hc1 := hc.setCell (p := ⟨g, j * 2, none⟩) (.inl ⟨hg1, hg2, htg⟩) (.int .i64 z)
      have hx1 : (M.set j (⟨z, x.b⟩ : It))[j]? = some ⟨z, x.b⟩ := List.getElem?_set_self hlm
      rw [Nat.add_zero] at hp1
      have HX1 := Lib.hid hx1; clear hx1
      clear ho hc hcell
      go_wp2_with fail
      generalize wr.setCell ⟨g, j * 2, none⟩ (.int .i64 z) = w1 at *
      have hsz1 := hc1.size
      refine (markText_any (z + 1) w1 (by omega) (by omega)).mono ?_
      rintro e w2 ⟨rfl, b2⟩
      have hp2 := OIts.tloc.below hp1 b2 (by omega)
      have hc2 := hc1.trans (Chg.of_below (S := fun _ => False) b2) fun _ _ h => h.elim
      obtain ⟨m, m', es, l1, l2, l3, hl, ⟨rfl, hgd2⟩, hcell2, -⟩ := ORow.at_ (RFlat.tloc FIt) (by decide) hp2 HX1.out
      have hcb : w2.cell? ⟨g, j * 2 + 1, none⟩ = some (.string x.b) := hcell2 1 _ rfl
      have hfb := ORow.frozen hp2 (j * 2 + 1)
      have hp3 := ORow.put (j := 1) (u := .string (mt (z + 1))) (RFlat.tloc FIt) (by decide) hp2 HX1.out (y := mIt z x) (by decide) rfl (fun w' lo hi es hh => ⟨by rw [hh.1]; rfl, hin, mt_size _⟩)
      rw [list_set_set, HSTEP.out] at hp3
      have hc3 := hc2.setCell (p := ⟨g, j * 2 + 1, none⟩) (.inl ⟨hg1, hg2, htg⟩) (.string (mt (z + 1)))
      clear hp1 hp2 hc1 hc2 hcell2
      go_wp2_with fail
      go_roundw
      case rel => exact ⟨j + 1, by omega, by go_num, by rw [HZ.out]; go_num, by rw [HM2.out]; exact hp3, hc3⟩
      case measure => simp [intOf]; omega
    · obtain rfl : j = xs.length := by omega
      rw [cntTo_all, markTo_all] at *
      go_wp2_with fail
      go_ret
      exact ⟨rfl, ho, hc⟩
set_option maxHeartbeats 2000000 in
theorem heldItemS_any (xs : List It) (v : Value) (w : World) (lo hi : Nat) (k : Int) (h : RItsL w lo hi (markL mIt nIt k xs) [v]) (hhi : hi ≤ w.heap.size) (hk : 1 ≤ k) (hk' : k + ((cntS nIt xs : Nat) : Int) ≤ 1099511627776) :
    Calls Try.prog 118 #[v, .int .i64 k] w fun e w' => e = .returned (.int .i64 (k + ((cntS nIt xs : Nat) : Int))) ∧ Below w.heap.size w w' := by
  obtain ⟨A, c, rfl⟩ := RSl.form h
  obtain ⟨_, hc0, hx0⟩ := h.len_
  unfold maxLen at hx0
  rw [markL_len] at *
  go_enter Try.func118, Try.ntmps118
  go_wp2_with fail
  go_loopw [1, 5] (fun kk ii wr => ∃ j : Nat, j ≤ xs.length ∧ ii = .int .i64 j ∧ kk = .int .i64 (k + ((cntTo nIt xs j : Nat) : Int)) ∧ Below w.heap.size w wr) (fun _ ii _ => xs.length - (intOf ii).toNat)
  case atStart => exact ⟨0, Nat.zero_le _, rfl, by rw [cntTo_zero]; simp, Below.refl _ _⟩
  case round =>
    obtain ⟨j, hj, rfl, rfl, hbr⟩ := hrel
    have hle := cntTo_le (n := nIt) (l := xs) (j := j)
    by_cases hlt : j < xs.length
    · obtain ⟨x, hxk⟩ := some_of_lt hlt
      have hst := cntTo_step (n := nIt) hxk
      have hle2 := cntTo_le (n := nIt) (l := xs) (j := j + 1)
      have hmk := markL_get mIt nIt xs k j x hxk
      obtain ⟨z, hz⟩ : ∃ z : Int, z = k + ((cntTo nIt xs j : Nat) : Int) := ⟨_, rfl⟩
      rw [← hz] at hmk ⊢
      have hz1 : 1 ≤ z := by omega
      have hz2 : z + ((nIt x : Nat) : Int) ≤ 1099511627776 := by omega
      have hz3 : k + ((cntTo nIt xs (j + 1) : Nat) : Int) = z + ((nIt x : Nat) : Int) := by omega
      have HZ := Lib.hid hz3
      have HX := Lib.hid hxk
      clear hz hz3 hst hle hle2 hxk
      have hn2 : ((nIt x : Nat) : Int) = 2 := rfl
      rw [hn2] at hz2 HZ
      obtain ⟨b, off, es, rfl, _, hbb, _, ⟨rfl, hgd⟩, hcc⟩ := (RItsL.loc.below h hbr hhi).at_ hmk
      have hc0 : wr.cell? ⟨b, off + j * 2, none⟩ = some (.int .i64 z) := by simpa using hcc 0 (.int .i64 z) rfl
      have hc1 : wr.cell? ⟨b, off + j * 2 + 1, none⟩ = some (.string (mt (z + 1))) := by simpa using hcc 1 (.string (mt (z + 1))) rfl
      have HMK := Lib.hid hmk; clear hmk hcc
      have tz : (z != z) = false := by simp
      have ts : ((mt (z + 1)).toList == (mt (z + 1)).toList) = true := by simp
      go_wp2_with fail
      have past0 := past_cell hc0
      have past1 := past_cell hc1
      refine region_past (by kernel_rfl) (by kernel_rfl) ?_
      repeat (go_big_quiet_step (first | (go_at_call 85; refine past_call (markText_any (z + 1) _ (by omega) (by omega)))))
      refine wpQuiet_nil ?_
      intro wq hw1
      have hq := past_out hw1
      clear hw1 past0 past1
      replace hbr := below_below hbr hq
      clear hc0 hc1
      go_wp2_with fail
      go_roundw
      case rel => exact ⟨j + 1, by omega, by go_num, by rw [HZ.out]; exact congrArg (Value.int .i64) (by omega), hbr⟩
      case measure => simp [intOf]; omega
    · obtain rfl : j = xs.length := by omega
      rw [cntTo_all]
      go_wp2_with fail
      go_ret
      exact ⟨rfl, hbr⟩
end Go.Proofs.Ytanppokbjladfaa




/- Marks on Pack. -/
namespace Go.Proofs.Ytanppokbjladfaa
open Go.RowKit

set_option maxHeartbeats 2000000 in
theorem markPackS_any (xs : List Pk) (v : Value) (w : World) (lo hi : Nat) (k : Int) (h : OPks w lo hi xs [v]) (hhi : hi ≤ w.heap.size) (hk : 1 ≤ k) (hk' : k + ((cntS nPk xs : Nat) : Int) ≤ 1099511627776) :
    Calls Try.prog 16 #[v, .int .i64 k] w fun e w' => e = .returned (.int .i64 (k + ((cntS nPk xs : Nat) : Int))) ∧ OPks w' lo hi (markL mPk nPk k xs) [v] ∧ Chg (fun b => lo ≤ b ∧ b < hi ∧ Typed w [37, 44] b) w w' := by
  obtain ⟨A, c, rfl⟩ := ORow.form h
  obtain ⟨_, hc0, hx0⟩ := (OPks.l h).len_
  unfold maxLen at hx0
  go_enter Try.func16, Try.ntmps16
  go_wp2_with fail
  go_loopw [1, 5] (fun kk ii wr => ∃ j : Nat, j ≤ xs.length ∧ ii = .int .i64 j ∧ kk = .int .i64 (k + ((cntTo nPk xs j : Nat) : Int)) ∧ OPks wr lo hi (markTo mPk nPk k xs j) [.slice A xs.length c] ∧ Chg (fun b => lo ≤ b ∧ b < hi ∧ Typed w [37, 44] b) w wr) (fun _ ii _ => xs.length - (intOf ii).toNat)
  case atStart => exact ⟨0, Nat.zero_le _, rfl, by rw [cntTo_zero]; simp, by rw [markTo_zero]; exact h, Chg.refl _ _⟩
  case round =>
    obtain ⟨j, hj, rfl, rfl, ho, hc⟩ := hrel
    have hle := cntTo_le (n := nPk) (l := xs) (j := j)
    by_cases hlt : j < xs.length
    · obtain ⟨x, hxk⟩ := some_of_lt hlt
      have hst := cntTo_step (n := nPk) hxk
      have hle2 := cntTo_le (n := nPk) (l := xs) (j := j + 1)
      have hxm := markTo_get mPk nPk k hxk
      have hstep := markTo_step mPk nPk k hxk
      have hml := markTo_len mPk nPk k xs hj
      obtain ⟨g, c', e, hg1, hg2, hg3, dsg, hgb⟩ := ORow.some_ ho (by rw [hml]; omega)
      simp only [Value.slice.injEq] at e
      obtain ⟨rfl, -, rfl⟩ := e
      have htg : Typed w [37, 44] g := typed_back hc (T := [37, 44]) (fun t ht => ht) hg2 hhi (fun hs => hs.2.2) ⟨_, List.mem_cons_self, dsg, hgb⟩
      have hlm : j < (markTo mPk nPk k xs j).length := by rw [hml]; exact hlt
      obtain ⟨z, hz⟩ : ∃ z : Int, z = k + ((cntTo nPk xs j : Nat) : Int) := ⟨_, rfl⟩
      rw [← hz] at hstep ⊢
      have hz1 : 1 ≤ z := by omega
      have hz2 : z + ((nPk x : Nat) : Int) ≤ 1099511627776 := by omega
      have hz3 : k + ((cntTo nPk xs (j + 1) : Nat) : Int) = z + ((nPk x : Nat) : Int) := by omega
      have HZ := Lib.hid hz3
      have HX := Lib.hid hxk
      have hwr := hc.size
      clear hz hz3 hst hle hle2 hxk hgb dsg hml
      revert ho; revert hxm; revert hlm; revert hstep
      generalize markTo mPk nPk k xs j = M
      generalize hM2 : markTo mPk nPk k xs (j + 1) = M2
      have HM2 := Lib.hid hM2; clear hM2
      intro hstep hlm hxm ho
      have HSTEP := Lib.hid hstep; clear hstep
      have HXM := Lib.hid hxm; clear hxm
      have hin : In64 z := by unfold In64; omega
      have hn2 : ((nPk x : Nat) : Int) = 1 + ((cntS nIt x.its : Nat) : Int) := by unfold nPk; omega
      rw [hn2] at hz2 HZ
      obtain ⟨m, m', es, l1, l2, l3, hl', ⟨v2, rfl, hgd, hrow⟩, hcell, -⟩ := ORow.at_ OPk.tloc (by decide) ho HXM.out
      have hc0' : wr.cell? ⟨g, j * 2, none⟩ = some (.int .i64 x.no) := hcell 0 _ rfl
      have hf0 := ORow.frozen ho (j * 2)
      have hp1 := ORow.put (j := 0) (u := .int .i64 z) OPk.tloc (by decide) ho HXM.out (y := ⟨z, x.its⟩) (by decide) rfl (fun w' lo hi es ⟨v2, he, hg, hr⟩ => ⟨v2, by rw [he]; rfl, hin, hr⟩)
      have hc1 := hc.setCell (p := ⟨g, j * 2, none⟩) (.inl ⟨hg1, hg2, htg⟩) (.int .i64 z)
      have hx1 : (M.set j (⟨z, x.its⟩ : Pk))[j]? = some ⟨z, x.its⟩ := List.getElem?_set_self hlm
      rw [Nat.add_zero] at hp1
      have HX1 := Lib.hid hx1; clear hx1
      clear l1 l2 l3 hcell hrow hgd hl' ho hc
      obtain ⟨m, m', es, l1, l2, l3, hl', ⟨v2, rfl, hgd, hrow2⟩, hcell2, hup⟩ := ORow.at_ OPk.tloc (by decide) hp1 HX1.out
      obtain ⟨A2, c2, rfl⟩ := ORow.form hrow2
      have hcb : (wr.setCell ⟨g, j * 2, none⟩ (.int .i64 z)).cell? ⟨g, j * 2 + 1, none⟩ = some (.slice A2 x.its.length c2) := hcell2 1 _ rfl
      have HUP := Lib.hid hup; clear hup hcell2 hp1
      have HROW := Lib.hid hrow2; clear hrow2
      have HC1 := Lib.hid hc1; clear hc1
      go_wp2_with fail
      generalize wr.setCell ⟨g, j * 2, none⟩ (.int .i64 z) = w1 at *
      have hsz1 := HC1.out.size
      have hrow2 := HROW.out
      refine (markItemS_any x.its _ w1 m m' (z + 1) hrow2 (by omega) (by omega) (by omega)).mono ?_
      rintro e w2 ⟨rfl, o2, ch2⟩
      have hp3 := HUP.out w2 (mPk z x) ch2 ⟨_, rfl, hin, o2⟩
      rw [list_set_set, HSTEP.out] at hp3
      have hc3 := HC1.out.trans ch2 fun b hb hs => ⟨by omega, by omega, typed_back HC1.out (T := [44]) (by simp) (show b < hi by omega) hhi (fun hs => hs.2.2) hs.2.2⟩
      clear ch2
      go_wp2_with fail
      go_roundw
      case rel => exact ⟨j + 1, by omega, by go_num, by rw [HZ.out]; exact congrArg (Value.int .i64) (by omega), by rw [HM2.out]; exact hp3, hc3⟩
      case measure => simp [intOf]; omega
    · obtain rfl : j = xs.length := by omega
      rw [cntTo_all, markTo_all] at *
      go_wp2_with fail
      go_ret
      exact ⟨rfl, ho, hc⟩
set_option maxHeartbeats 2000000 in
theorem heldPackS_any (xs : List Pk) (v : Value) (w : World) (lo hi : Nat) (k : Int) (h : RPksL w lo hi (markL mPk nPk k xs) [v]) (hhi : hi ≤ w.heap.size) (hk : 1 ≤ k) (hk' : k + ((cntS nPk xs : Nat) : Int) ≤ 1099511627776) :
    Calls Try.prog 77 #[v, .int .i64 k] w fun e w' => e = .returned (.int .i64 (k + ((cntS nPk xs : Nat) : Int))) ∧ Below w.heap.size w w' := by
  obtain ⟨A, c, rfl⟩ := RSl.form h
  obtain ⟨_, hc0, hx0⟩ := h.len_
  unfold maxLen at hx0
  rw [markL_len] at *
  go_enter Try.func77, Try.ntmps77
  go_wp2_with fail
  go_loopw [1, 5] (fun kk ii wr => ∃ j : Nat, j ≤ xs.length ∧ ii = .int .i64 j ∧ kk = .int .i64 (k + ((cntTo nPk xs j : Nat) : Int)) ∧ Below w.heap.size w wr) (fun _ ii _ => xs.length - (intOf ii).toNat)
  case atStart => exact ⟨0, Nat.zero_le _, rfl, by rw [cntTo_zero]; simp, Below.refl _ _⟩
  case round =>
    obtain ⟨j, hj, rfl, rfl, hbr⟩ := hrel
    have hle := cntTo_le (n := nPk) (l := xs) (j := j)
    by_cases hlt : j < xs.length
    · obtain ⟨x, hxk⟩ := some_of_lt hlt
      have hst := cntTo_step (n := nPk) hxk
      have hle2 := cntTo_le (n := nPk) (l := xs) (j := j + 1)
      have hmk := markL_get mPk nPk xs k j x hxk
      obtain ⟨z, hz⟩ : ∃ z : Int, z = k + ((cntTo nPk xs j : Nat) : Int) := ⟨_, rfl⟩
      rw [← hz] at hmk ⊢
      have hz1 : 1 ≤ z := by omega
      have hz2 : z + ((nPk x : Nat) : Int) ≤ 1099511627776 := by omega
      have hz3 : k + ((cntTo nPk xs (j + 1) : Nat) : Int) = z + ((nPk x : Nat) : Int) := by omega
      have HZ := Lib.hid hz3
      have HX := Lib.hid hxk
      clear hz hz3 hst hle hle2 hxk
      have hn2 : ((nPk x : Nat) : Int) = 1 + ((cntS nIt x.its : Nat) : Int) := by unfold nPk; omega
      rw [hn2] at hz2 HZ
      obtain ⟨b, off, es, rfl, _, hbb, _, ⟨v2, rfl, hgd, hr⟩, hcc⟩ := (RPksL.loc.below h hbr hhi).at_ hmk
      have hr2 : RItsL wr lo hi (markL mIt nIt (z + 1) x.its) [v2] := hr
      obtain ⟨A2, c2, rfl⟩ := RSl.form hr2
      have hc0 : wr.cell? ⟨b, off + j * 2, none⟩ = some (.int .i64 z) := by simpa using hcc 0 (.int .i64 z) rfl
      have hc1 : wr.cell? ⟨b, off + j * 2 + 1, none⟩ = some (.slice A2 (markL mIt nIt (z + 1) x.its).length c2) := by simpa using hcc 1 (.slice A2 (markL mIt nIt (z + 1) x.its).length c2) rfl
      rw [markL_len] at hc1 hr2
      have HMK := Lib.hid hmk; clear hmk hcc hr
      have HR2 := Lib.hid hr2; clear hr2
      have tz : (z != z) = false := by simp
      go_wp2_with fail
      have hr2 := HR2.out
      refine (heldItemS_any x.its _ _ lo hi (z + 1) hr2 (Nat.le_trans hhi hbr.size) (by omega) (by omega)).mono ?_
      rintro e w2 ⟨rfl, b2⟩
      go_wp2_with fail
      go_roundw
      case rel => exact ⟨j + 1, by omega, by go_num, by rw [HZ.out]; exact congrArg (Value.int .i64) (by omega), below_below hbr b2⟩
      case measure => simp [intOf]; omega
    · obtain rfl : j = xs.length := by omega
      rw [cntTo_all]
      go_wp2_with fail
      go_ret
      exact ⟨rfl, hbr⟩
end Go.Proofs.Ytanppokbjladfaa




/- Marks on Head. -/
namespace Go.Proofs.Ytanppokbjladfaa
open Go.RowKit

set_option maxHeartbeats 2000000 in
theorem markHeadS_any (xs : List Hd) (v : Value) (w : World) (lo hi : Nat) (k : Int) (h : OHds w lo hi xs [v]) (hhi : hi ≤ w.heap.size) (hk : 1 ≤ k) (hk' : k + ((cntS nHd xs : Nat) : Int) ≤ 1099511627776) :
    Calls Try.prog 76 #[v, .int .i64 k] w fun e w' => e = .returned (.int .i64 (k + ((cntS nHd xs : Nat) : Int))) ∧ OHds w' lo hi (markL mHd nHd k xs) [v] ∧ Chg (fun b => lo ≤ b ∧ b < hi ∧ Typed w [115] b) w w' := by
  obtain ⟨A, c, rfl⟩ := ORow.form h
  obtain ⟨_, hc0, hx0⟩ := (OHds.l h).len_
  unfold maxLen at hx0
  go_enter Try.func76, Try.ntmps76
  go_wp2_with fail
  go_loopw [1, 5] (fun kk ii wr => ∃ j : Nat, j ≤ xs.length ∧ ii = .int .i64 j ∧ kk = .int .i64 (k + ((cntTo nHd xs j : Nat) : Int)) ∧ OHds wr lo hi (markTo mHd nHd k xs j) [.slice A xs.length c] ∧ Chg (fun b => lo ≤ b ∧ b < hi ∧ Typed w [115] b) w wr) (fun _ ii _ => xs.length - (intOf ii).toNat)
  case atStart => exact ⟨0, Nat.zero_le _, rfl, by rw [cntTo_zero]; simp, by rw [markTo_zero]; exact h, Chg.refl _ _⟩
  case round =>
    obtain ⟨j, hj, rfl, rfl, ho, hc⟩ := hrel
    have hle := cntTo_le (n := nHd) (l := xs) (j := j)
    by_cases hlt : j < xs.length
    · obtain ⟨x, hxk⟩ := some_of_lt hlt
      have hst := cntTo_step (n := nHd) hxk
      have hle2 := cntTo_le (n := nHd) (l := xs) (j := j + 1)
      have hxm := markTo_get mHd nHd k hxk
      have hstep := markTo_step mHd nHd k hxk
      have hml := markTo_len mHd nHd k xs hj
      obtain ⟨g, c', e, hg1, hg2, hg3, dsg, hgb⟩ := ORow.some_ ho (by rw [hml]; omega)
      simp only [Value.slice.injEq] at e
      obtain ⟨rfl, -, rfl⟩ := e
      have htg : Typed w [115] g := typed_back hc (T := [115]) (fun t ht => ht) hg2 hhi (fun hs => hs.2.2) ⟨_, List.mem_cons_self, dsg, hgb⟩
      have hlm : j < (markTo mHd nHd k xs j).length := by rw [hml]; exact hlt
      obtain ⟨z, hz⟩ : ∃ z : Int, z = k + ((cntTo nHd xs j : Nat) : Int) := ⟨_, rfl⟩
      rw [← hz] at hstep ⊢
      have hz1 : 1 ≤ z := by omega
      have hz2 : z + ((nHd x : Nat) : Int) ≤ 1099511627776 := by omega
      have hz3 : k + ((cntTo nHd xs (j + 1) : Nat) : Int) = z + ((nHd x : Nat) : Int) := by omega
      have HZ := Lib.hid hz3
      have HX := Lib.hid hxk
      have hwr := hc.size
      clear hz hz3 hst hle hle2 hxk hgb dsg hml
      revert ho; revert hxm; revert hlm; revert hstep
      generalize markTo mHd nHd k xs j = M
      generalize hM2 : markTo mHd nHd k xs (j + 1) = M2
      have HM2 := Lib.hid hM2; clear hM2
      intro hstep hlm hxm ho
      have HSTEP := Lib.hid hstep; clear hstep
      have HXM := Lib.hid hxm; clear hxm
      have hin : In64 z := by unfold In64; omega
      have hn2 : ((nHd x : Nat) : Int) = 2 := rfl
      rw [hn2] at hz2 HZ
      obtain ⟨m, m', es, l1, l2, l3, hl, ⟨rfl, hgd⟩, hcell, -⟩ := ORow.at_ (RFlat.tloc FHd) (by decide) ho HXM.out
      have hc0 : wr.cell? ⟨g, j * 2, none⟩ = some (.int .i64 x.b) := hcell 0 _ rfl
      have hf0 := ORow.frozen ho (j * 2)
      have hp1 := ORow.put (j := 0) (u := .int .i64 z) (RFlat.tloc FHd) (by decide) ho HXM.out (y := ⟨z, x.s⟩) (by decide) rfl (fun w' lo hi es hh => ⟨by rw [hh.1]; rfl, hin, hh.2.2⟩)
      have hc1 := hc.setCell (p := ⟨g, j * 2, none⟩) (.inl ⟨hg1, hg2, htg⟩) (.int .i64 z)
      have hx1 : (M.set j (⟨z, x.s⟩ : Hd))[j]? = some ⟨z, x.s⟩ := List.getElem?_set_self hlm
      rw [Nat.add_zero] at hp1
      obtain ⟨m, m', es, l1, l2, l3, hl, ⟨rfl, hgd2⟩, hcell2, -⟩ := ORow.at_ (RFlat.tloc FHd) (by decide) hp1 hx1
      have hcb : (wr.setCell ⟨g, j * 2, none⟩ (.int .i64 z)).cell? ⟨g, j * 2 + 1, none⟩ = some (.int .i64 x.s) := hcell2 1 _ rfl
      have hfb := ORow.frozen hp1 (j * 2 + 1)
      have hp3 := ORow.put (j := 1) (u := .int .i64 (z + 1)) (RFlat.tloc FHd) (by decide) hp1 hx1 (y := mHd z x) (by decide) rfl (fun w' lo hi es hh => ⟨by rw [hh.1]; rfl, hin, by show In64 (z + 1); unfold In64; omega⟩)
      rw [list_set_set, HSTEP.out] at hp3
      have hc3 := hc1.setCell (p := ⟨g, j * 2 + 1, none⟩) (.inl ⟨hg1, hg2, htg⟩) (.int .i64 (z + 1))
      have HP3 := Lib.hid hp3; have HC3 := Lib.hid hc3
      clear hp1 hc1 hcell2 hx1 hp3 hc3 hcell
      go_wp2_with fail
      go_roundw
      case rel => exact ⟨j + 1, by omega, by go_num, by rw [HZ.out]; go_num, by rw [HM2.out]; exact HP3.out, HC3.out⟩
      case measure => simp [intOf]; omega
    · obtain rfl : j = xs.length := by omega
      rw [cntTo_all, markTo_all] at *
      go_wp2_with fail
      go_ret
      exact ⟨rfl, ho, hc⟩
set_option maxHeartbeats 2000000 in
theorem heldHeadS_any (xs : List Hd) (v : Value) (w : World) (lo hi : Nat) (k : Int) (h : RHdsL w lo hi (markL mHd nHd k xs) [v]) (hhi : hi ≤ w.heap.size) (hk : 1 ≤ k) (hk' : k + ((cntS nHd xs : Nat) : Int) ≤ 1099511627776) :
    Calls Try.prog 79 #[v, .int .i64 k] w fun e w' => e = .returned (.int .i64 (k + ((cntS nHd xs : Nat) : Int))) ∧ Below w.heap.size w w' := by
  obtain ⟨A, c, rfl⟩ := RSl.form h
  obtain ⟨_, hc0, hx0⟩ := h.len_
  unfold maxLen at hx0
  rw [markL_len] at *
  go_enter Try.func79, Try.ntmps79
  go_wp2_with fail
  go_loopw [1, 5] (fun kk ii wr => ∃ j : Nat, j ≤ xs.length ∧ ii = .int .i64 j ∧ kk = .int .i64 (k + ((cntTo nHd xs j : Nat) : Int)) ∧ Below w.heap.size w wr) (fun _ ii _ => xs.length - (intOf ii).toNat)
  case atStart => exact ⟨0, Nat.zero_le _, rfl, by rw [cntTo_zero]; simp, Below.refl _ _⟩
  case round =>
    obtain ⟨j, hj, rfl, rfl, hbr⟩ := hrel
    have hle := cntTo_le (n := nHd) (l := xs) (j := j)
    by_cases hlt : j < xs.length
    · obtain ⟨x, hxk⟩ := some_of_lt hlt
      have hst := cntTo_step (n := nHd) hxk
      have hle2 := cntTo_le (n := nHd) (l := xs) (j := j + 1)
      have hmk := markL_get mHd nHd xs k j x hxk
      obtain ⟨z, hz⟩ : ∃ z : Int, z = k + ((cntTo nHd xs j : Nat) : Int) := ⟨_, rfl⟩
      rw [← hz] at hmk ⊢
      have hz1 : 1 ≤ z := by omega
      have hz2 : z + ((nHd x : Nat) : Int) ≤ 1099511627776 := by omega
      have hz3 : k + ((cntTo nHd xs (j + 1) : Nat) : Int) = z + ((nHd x : Nat) : Int) := by omega
      have HZ := Lib.hid hz3
      have HX := Lib.hid hxk
      clear hz hz3 hst hle hle2 hxk
      have hn2 : ((nHd x : Nat) : Int) = 2 := rfl
      rw [hn2] at hz2 HZ
      obtain ⟨b, off, es, rfl, _, hbb, _, ⟨rfl, hgd⟩, hcc⟩ := (RHdsL.loc.below h hbr hhi).at_ hmk
      have hc0 : wr.cell? ⟨b, off + j * 2, none⟩ = some (.int .i64 z) := by simpa using hcc 0 (.int .i64 z) rfl
      have hc1 : wr.cell? ⟨b, off + j * 2 + 1, none⟩ = some (.int .i64 (z + 1)) := by simpa using hcc 1 (.int .i64 (z + 1)) rfl
      have HMK := Lib.hid hmk; clear hmk hcc
      have tz : (z != z) = false := by simp
      have tz1 : (z + 1 != z + 1) = false := by simp
      go_wp2_with fail
      go_roundw
      case rel => exact ⟨j + 1, by omega, by go_num, by rw [HZ.out]; exact congrArg (Value.int .i64) (by omega), hbr⟩
      case measure => simp [intOf]; omega
    · obtain rfl : j = xs.length := by omega
      rw [cntTo_all]
      go_wp2_with fail
      go_ret
      exact ⟨rfl, hbr⟩
end Go.Proofs.Ytanppokbjladfaa

