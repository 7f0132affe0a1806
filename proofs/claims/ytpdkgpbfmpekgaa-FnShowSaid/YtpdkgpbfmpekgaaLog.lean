


/- Logs: LogOk, LogFork, LogBegins, where both logs are right. -/
import Derived.Test.YtpdkgpbfmpekgaaLnk
import Derived.Test.YtpdkgpbfmpekgaaGL
namespace Go.Proofs.Ytpdkgpbfmpekgaa
open Go.RowKit

def okHd (x : Hd) : Prop := (1 ≤ x.b ∧ x.b ≤ 2) ∧ 1 ≤ x.s ∧ x.s ≤ 20
def okLog (l : List Hd) : Prop := l.length ≤ 9 ∧ ∀ x ∈ l, okHd x
theorem headOk_yes (x : Hd) (hx : okHd x) (w : World) : Calls Try.prog 48 #[.agg #[.int .i64 x.b, .int .i64 x.s]] w fun e w' => e = .returned (.bool true) ∧ Below w.heap.size w w' := by
  obtain ⟨⟨h1, h2⟩, h3, h4⟩ := hx
  have t3 : decide (1 ≤ x.s) = true := decide_eq_true h3
  have t4 : decide (x.s ≤ 20) = true := decide_eq_true h4
  by_cases e : x.b = 1
  · have t1 : (x.b == 1) = true := beq_iff_eq.2 e
    clear h1 h2 e h3 h4
    go_enter Try.func48, Try.ntmps48
    go_wp2_with fail
    go_ret
    exact ⟨rfl, by repeat (first | exact Below.refl _ _ | refine Below.alloc ?_ (by simp) _)⟩
  · have t1 : (x.b == 1) = false := beq_eq_false_iff_ne.2 e
    have t2 : (x.b == 2) = true := beq_iff_eq.2 (by omega)
    clear h1 h2 e h3 h4
    go_enter Try.func48, Try.ntmps48
    go_wp2_with fail
    go_ret
    exact ⟨rfl, by repeat (first | exact Below.refl _ _ | refine Below.alloc ?_ (by simp) _)⟩
theorem logOk1_no (x : Hd) (hx : okHd x) (w : World) : Calls Try.prog 47 #[.agg #[.int .i64 x.b, .int .i64 x.s]] w fun e w' => e = .returned (.bool false) ∧ Below w.heap.size w w' := by
  go_enter Try.func47, Try.ntmps47
  go_wp2_with fail
  refine (headOk_yes x hx _).mono ?_
  rintro e w1 ⟨rfl, b1⟩
  have hb := (below_alloc w (.cells #[.int .i64 x.b, .int .i64 x.s] 59))
  go_wp2_with fail
  go_ret
  exact ⟨rfl, below_below hb b1⟩
theorem isFnLk1 : IsFn 47 := isFn Try.func47 (by kernel_rfl) rfl
set_option maxRecDepth 100000 in
theorem indexFunc_ok (xs : List Hd) (hok : ∀ x ∈ xs, okHd x) (v : Value) (w : World) (lo hi : Nat) (h : RHdsL w lo hi xs [v]) (hhi : hi ≤ w.heap.size) :
    Calls Try.prog 65 #[v, .func (.func 47) #[] #[]] w fun e w' => e = .returned (.int .i64 (-1)) ∧ Below w.heap.size w w' := by
  obtain ⟨A, c, rfl⟩ := RSl.form h
  obtain ⟨_, hc, hx⟩ := h.len_
  unfold maxLen at hx
  have HF := Lib.hid hok; clear hok
  go_enter Try.func65, Try.ntmps65
  go_wp2_with fail
  go_loopw [8] (fun ii wr => ∃ k : Nat, k ≤ xs.length ∧ ii = .int .i64 k ∧ Below w.heap.size w wr) (fun ii _ => xs.length - (intOf ii).toNat)
  case atStart => exact ⟨0, Nat.zero_le _, rfl, Below.refl _ _⟩
  case round =>
    obtain ⟨k, hk, rfl, hbr⟩ := hrel
    by_cases hlt : k < xs.length
    · obtain ⟨x, hxk⟩ := some_of_lt hlt
      obtain ⟨b, off, es, e0, _, hbb, _, ⟨rfl, hgd⟩, hcc⟩ := (RHdsL.loc.below h hbr hhi).at_ hxk
      subst e0
      have hc0 : wr.cell? ⟨b, off + k * 2, none⟩ = some (.int .i64 x.b) := by simpa using hcc 0 _ rfl
      have hc1 : wr.cell? ⟨b, off + k * 2 + 1, none⟩ = some (.int .i64 x.s) := by simpa using hcc 1 _ rfl
      have HX := Lib.hid (HF.out x (List.mem_of_getElem? hxk)); clear hxk hcc
      have hcall := isFnLk1 (#[.agg #[.int .i64 x.b, .int .i64 x.s]] ++ #[]) wr
      go_wp2_with fail
      refine (logOk1_no x HX.out wr).mono ?_
      rintro e w' ⟨rfl, b1⟩
      clear hcall hc0 hc1
      go_wp2_with fail
      go_roundw
      case rel => exact ⟨k + 1, by omega, by go_num, below_below hbr b1⟩
      case measure => simp [intOf]; omega
    · obtain rfl : k = xs.length := by omega
      go_wp2_with fail
      go_ret
      exact ⟨rfl, hbr⟩
theorem containsFunc_ok (xs : List Hd) (hok : ∀ x ∈ xs, okHd x) (v : Value) (w : World) (lo hi : Nat) (h : RHdsL w lo hi xs [v]) (hhi : hi ≤ w.heap.size) :
    Calls Try.prog 41 #[v, .func (.func 47) #[] #[]] w fun e w' => e = .returned (.bool false) ∧ Below w.heap.size w w' := by
  obtain ⟨A, c, rfl⟩ := RSl.form h
  have HF := Lib.hid hok; clear hok
  go_enter Try.func41, Try.ntmps41
  go_wp2_with fail
  refine (indexFunc_ok xs HF.out _ w lo hi h hhi).mono ?_
  rintro e w1 ⟨rfl, b1⟩
  go_wp2_with fail
  go_ret
  exact ⟨rfl, b1⟩
theorem implLogOk_any (xs : List Hd) (hok : okLog xs) (v : Value) (w : World) (lo hi : Nat) (h : RHdsL w lo hi xs [v]) (hhi : hi ≤ w.heap.size) :
    Calls Try.prog 22 #[v] w fun e w' => e = .returned (.bool true) ∧ Below w.heap.size w w' := by
  obtain ⟨A, c, rfl⟩ := RSl.form h
  obtain ⟨h9, hall⟩ := hok
  have t9 : decide ((xs.length : Int) ≤ 9) = true := decide_eq_true (by omega)
  have HF := Lib.hid hall; clear hall
  go_enter Try.func22, Try.ntmps22
  go_wp2_with fail
  refine (containsFunc_ok xs HF.out _ w lo hi h hhi).mono ?_
  rintro e w1 ⟨rfl, b1⟩
  go_wp2_with fail
  go_ret
  exact ⟨rfl, b1⟩
theorem linked_any (xs : List Hd) (A : Option Addr) (c lo hi : Nat) (w : World) (hc : RHdsL w lo hi xs [.slice A xs.length c]) (hhi : hi ≤ w.heap.size) :
    Calls Try.prog 23 #[.slice A xs.length c] w fun e W' => ∃ p, e = .returned (.pointer p) ∧ LkL w.heap.size W' p xs ∧ Below w.heap.size w W' :=
  callsIn_wide.1 (linked_in Fence.wide 6 trivial trivial trivial rfl (Nat.le_refl _) xs A c lo hi w hc hhi)
def forkAt : Nat → List Hd → List Hd → Int
  | _, [], _ => -1
  | _, _ :: _, [] => -1
  | i, x :: xs, y :: ys => if x.b = y.b ∧ x.s = y.s then forkAt (i + 1) xs ys else i
theorem LkL.cons {lo : Nat} {W : World} {p : Option Addr} {x : Hd} {xs : List Hd} (h : LkL lo W p (x :: xs)) : ∃ (b : Nat) (q : Option Addr), p = some ⟨b, 0, none⟩ ∧ lo ≤ b ∧ Blk W b 64 #[.int .i64 x.b, .int .i64 x.s, .pointer q] ∧ LkL lo W q xs := h
theorem LkL.nil_ {lo : Nat} {W : World} {p : Option Addr} (h : LkL lo W p []) : p = none := h
set_option maxHeartbeats 1000000 in
theorem implLogFork_any (xs ys : List Hd) (hx : okLog xs) (hy : okLog ys) (v1 v2 : Value) (w : World) (lo hi lo' hi' : Nat) (h : RHdsL w lo hi xs [v1]) (h2 : RHdsL w lo' hi' ys [v2]) (hhi : hi ≤ w.heap.size) (hhi2 : hi' ≤ w.heap.size) :
    Calls Try.prog 11 #[v1, v2] w fun e w' => e = .returned (.int .i64 (forkAt 0 xs ys)) ∧ Below w.heap.size w w' := by
  obtain ⟨A, c, rfl⟩ := RSl.form h
  obtain ⟨A2, c2, rfl⟩ := RSl.form h2
  have HOX := Lib.hid hx; have HOY := Lib.hid hy
  have h9 := hx.1
  clear hx hy
  go_enter Try.func11, Try.ntmps11
  go_wp2_with fail
  refine (implLogOk_any xs HOX.out _ w lo hi h hhi).mono ?_
  rintro e w1 ⟨rfl, b1⟩
  go_wp2_with fail
  refine (implLogOk_any ys HOY.out _ w1 lo' hi' (RHdsL.loc.below h2 b1 hhi2) (Nat.le_trans hhi2 b1.size)).mono ?_
  rintro e w2 ⟨rfl, b2⟩
  have bb2 := below_below b1 b2
  go_wp2_with fail
  refine (linked_any xs A c lo hi w2 (RHdsL.loc.below h bb2 hhi) (Nat.le_trans hhi bb2.size)).mono ?_
  rintro e w3 ⟨p, rfl, hp, b3⟩
  have bb3 := below_below bb2 b3
  go_wp2_with fail
  refine (linked_any ys A2 c2 lo' hi' w3 (RHdsL.loc.below h2 bb3 hhi2) (Nat.le_trans hhi2 bb3.size)).mono ?_
  rintro e w4 ⟨q, rfl, hq, b4⟩
  have bb4 := below_below bb3 b4
  have hp4 := hp.below b4
  clear b1 b2 bb2 b3 bb3 b4 hp
  go_wp2_with fail
  go_loopw [5, 6, 7] (fun pp qq ii wr => ∃ (k : Nat) (p q : Option Addr), k ≤ xs.length ∧ pp = .pointer p ∧ qq = .pointer q ∧ ii = .int .i64 k ∧ LkL w2.heap.size wr p (xs.drop k) ∧ LkL w3.heap.size wr q (ys.drop k) ∧ forkAt 0 xs ys = forkAt k (xs.drop k) (ys.drop k) ∧ Below w.heap.size w wr) (fun _ _ ii _ => xs.length - (intOf ii).toNat)
  case atStart => exact ⟨0, p, q, Nat.zero_le _, rfl, rfl, rfl, hp4, hq, rfl, bb4⟩
  case round =>
    clear hp4 hq bb4
    obtain ⟨k, p, q, hk, rfl, rfl, rfl, hp, hq, hf, hbr⟩ := hrel
    have HF := Lib.hid hf; clear hf
    cases ex : xs.drop k with
    | nil =>
      rw [ex] at hp HF
      obtain rfl := hp.nil_
      have hfe : forkAt 0 xs ys = -1 := HF.out
      have HFE := Lib.hid hfe
      clear hfe HF ex
      go_wp2_with fail
      go_ret
      exact ⟨ret_int HFE.out.symm, hbr⟩
    | cons x xt =>
      rw [ex] at hp HF
      obtain ⟨b1, p', rfl, -, hk1, hp'⟩ := hp.cons
      cases ey : ys.drop k with
      | nil =>
        rw [ey] at hq HF
        obtain rfl := hq.nil_
        have hfe : forkAt 0 xs ys = -1 := HF.out
        have HFE := Lib.hid hfe
        clear hfe HF ex ey
        go_wp2_with fail
        go_ret
        exact ⟨ret_int HFE.out.symm, hbr⟩
      | cons y yt =>
        rw [ey] at hq HF
        obtain ⟨b2, q', rfl, -, hk2, hq'⟩ := hq.cons
        have c0 := hk1.cell 0
        have c1 := hk1.cell 1
        have c2' := hk1.cell 2
        have d0 := hk2.cell 0
        have d1 := hk2.cell 1
        have d2 := hk2.cell 2
        have hlt : k < xs.length := by
          rcases Nat.lt_or_ge k xs.length with h | h
          · exact h
          · rw [List.drop_eq_nil_iff.2 h] at ex; cases ex
        have ext : xs.drop (k + 1) = xt := by rw [← List.tail_drop, ex]; rfl
        have eyt : ys.drop (k + 1) = yt := by rw [← List.tail_drop, ey]; rfl
        have HXT := Lib.hid ext; have HYT := Lib.hid eyt
        clear ext eyt ex ey
        by_cases he1 : x.b = y.b
        · have t2 : (x.b == y.b) = true := beq_iff_eq.2 he1
          by_cases he2 : x.s = y.s
          · have t3 : (x.s == y.s) = true := beq_iff_eq.2 he2
            have hfe : forkAt 0 xs ys = forkAt (k + 1) xt yt := by rw [HF.out]; exact if_pos ⟨he1, he2⟩
            have HFE := Lib.hid hfe
            clear he1 he2 hfe HF
            go_wp2_with fail
            go_quiet (fail)
            have hb3 := below_drewN hbr nq
            go_wp2_with fail
            go_roundw
            case rel => exact ⟨k + 1, p', q', by omega, rfl, rfl, by go_num, by rw [HXT.out]; exact hp'.below (below_drewN (Below.refl _ _) nq), by rw [HYT.out]; exact hq'.below (below_drewN (Below.refl _ _) nq), by rw [HXT.out, HYT.out]; exact HFE.out, hb3⟩
            case measure => simp [intOf]; omega
          · have t3 : (x.s == y.s) = false := beq_eq_false_iff_ne.2 he2
            have hfe : forkAt 0 xs ys = k := by rw [HF.out]; exact if_neg fun h => he2 h.2
            have HFE := Lib.hid hfe
            clear he1 he2 hfe HF
            go_wp2_with fail
            go_quiet (fail)
            go_wp2_with fail
            go_ret
            exact ⟨ret_int HFE.out.symm, below_drewN hbr _⟩
        · have t2 : (x.b == y.b) = false := beq_eq_false_iff_ne.2 he1
          have hfe : forkAt 0 xs ys = k := by rw [HF.out]; exact if_neg fun h => he1 h.1
          have HFE := Lib.hid hfe
          clear he1 hfe HF
          go_wp2_with fail
          go_quiet (fail)
          go_wp2_with fail
          go_ret
          exact ⟨ret_int HFE.out.symm, below_drewN hbr _⟩
theorem implLogBegins_yes (xs ys : List Hd) (hx : okLog xs) (hy : okLog ys) (hl : xs.length ≤ ys.length) (hf : forkAt 0 xs ys = -1) (v1 v2 : Value) (w : World) (lo hi lo' hi' : Nat) (h : RHdsL w lo hi xs [v1]) (h2 : RHdsL w lo' hi' ys [v2]) (hhi : hi ≤ w.heap.size) (hhi2 : hi' ≤ w.heap.size) :
    Calls Try.prog 10 #[v1, v2] w fun e w' => e = .returned (.bool true) ∧ Below w.heap.size w w' := by
  obtain ⟨A, c, rfl⟩ := RSl.form h
  obtain ⟨A2, c2, rfl⟩ := RSl.form h2
  have HOX := Lib.hid hx; have HOY := Lib.hid hy; have HF := Lib.hid hf
  have tl : decide (xs.length ≤ ys.length) = true := decide_eq_true hl
  clear hx hy hl hf
  go_enter Try.func10, Try.ntmps10
  go_wp2_with fail
  refine (implLogOk_any xs HOX.out _ w lo hi h hhi).mono ?_
  rintro e w1 ⟨rfl, b1⟩
  go_wp2_with fail
  refine (implLogOk_any ys HOY.out _ w1 lo' hi' (RHdsL.loc.below h2 b1 hhi2) (Nat.le_trans hhi2 b1.size)).mono ?_
  rintro e w2 ⟨rfl, b2⟩
  have bb2 := below_below b1 b2
  go_wp2_with fail
  refine (implLogFork_any xs ys HOX.out HOY.out _ _ w2 lo hi lo' hi' (RHdsL.loc.below h bb2 hhi) (RHdsL.loc.below h2 bb2 hhi2) (Nat.le_trans hhi bb2.size) (Nat.le_trans hhi2 bb2.size)).mono ?_
  rintro e w3 ⟨rfl, b3⟩
  rw [HF.out]
  go_wp2_with fail
  go_ret
  exact ⟨rfl, below_below bb2 b3⟩
end Go.Proofs.Ytpdkgpbfmpekgaa
