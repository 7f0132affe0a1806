


/- Snapshots with their days: right or not, by the reference and by the program; the last of each span. -/
import Derived.Test.YtpdbohjgmghgkaaKpL
import Derived.Test.YtpdbohjgmghgkaaIx
namespace Go.Proofs.Ytpdbohjgmghgkaa
open Go.RowKit

def FSt : Flat St := ⟨2, fun s => [.int .i64 s.s, .int .i64 s.d], fun x => In64 x.s ∧ In64 x.d, fun _ => rfl, fun x u hu => by simp at hu; rcases hu with rfl | rfl <;> rfl, by decide⟩
theorem elem_st : Elem Try.prog 66 76 2 16 := Elem.mk' Try.underlying66 (z := .agg #[.int .i64 0, .int .i64 0]) (by kernel_rfl) rfl (by decide) (by decide)
abbrev RSt : Rep St := RFlat FSt
theorem RSt.loc : Loc RSt := RFlat.loc FSt
theorem st_at {w : World} {lo hi : Nat} {xs : List St} {A : Option Addr} {n c : Nat} (h : RSl RSt 2 w lo hi xs [.slice A n c]) {k : Nat} {x : St} (hk : xs[k]? = some x) :
    ∃ b off, A = some ⟨b, off, none⟩ ∧ lo ≤ b ∧ b < hi ∧ (In64 x.s ∧ In64 x.d) ∧ w.cell? ⟨b, off + k * 2, none⟩ = some (.int .i64 x.s) ∧ w.cell? ⟨b, off + k * 2 + 1, none⟩ = some (.int .i64 x.d) := by
  obtain ⟨b, off, es, rfl, h1, h2, hl, ⟨rfl, h64⟩, hc⟩ := h.at_ hk
  exact ⟨b, off, rfl, h1, h2, h64, by simpa using hc 0 _ rfl, hc 1 _ rfl⟩
theorem stA_nil : stA [] := ⟨fun x h => (by cases h), List.Pairwise.nil⟩
theorem stA_snoc {xs : List St} {x : St} : stA (xs ++ [x]) ↔ stA xs ∧ stP1 x ∧ ∀ y ∈ xs, stR y x := by
  unfold stA
  rw [List.pairwise_append]
  constructor
  · intro ⟨h1, h2, _, h3⟩
    exact ⟨⟨fun y hy => h1 y (by simp [hy]), h2⟩, h1 x (by simp), fun y hy => h3 y hy x (by simp)⟩
  · intro ⟨⟨h1, h2⟩, h3, h4⟩
    refine ⟨fun y hy => ?_, h2, List.pairwise_singleton _ _, fun a ha b hb => ?_⟩
    · rcases List.mem_append.1 hy with hy | hy
      · exact h1 y hy
      · rw [List.mem_singleton.1 hy]; exact h3
    · rw [List.mem_singleton.1 hb]; exact h4 a ha
theorem st_yes0 {xs : List St} {x : St} (hx : xs[0]? = some x) (h : stP1 x) : stA (xs.take 1) := by
  have := take_succ hx
  rw [this]
  exact stA_snoc.2 ⟨stA_nil, h, fun y hy => by cases hy⟩
theorem st_yes {xs : List St} {x y : St} {j : Nat} (hn : stA (xs.take (j + 1))) (hy : xs[j]? = some y) (hx : xs[j + 1]? = some x) (h : stP1 x) (hlt : stR y x) : stA (xs.take (j + 1 + 1)) := by
  rw [take_succ hx]
  refine stA_snoc.2 ⟨hn, h, fun z hz => ?_⟩
  rw [take_succ hy] at hz hn
  rcases List.mem_append.1 hz with hz | hz
  · have := (stA_snoc.1 hn).2.2 z hz; unfold stR at *; omega
  · rw [List.mem_singleton.1 hz]; exact hlt
theorem st_no {xs : List St} {x : St} {k : Nat} (hx : xs[k]? = some x) (h : ¬ stP1 x) : ¬ stA xs := fun hp => h (hp.1 x (List.mem_of_getElem? hx))
theorem st_no2 {xs : List St} {x y : St} {j : Nat} (hy : xs[j]? = some y) (hx : xs[j + 1]? = some x) (h : ¬ stR y x) : ¬ stA xs := fun hp => by
  have h1 := List.pairwise_iff_getElem.1 hp.2 j (j + 1) (lt_of_some hy) (lt_of_some hx) (by omega)
  rw [(List.getElem?_eq_some_iff.1 hy).2, (List.getElem?_eq_some_iff.1 hx).2] at h1
  exact h h1
/-- In which way a stamp is right, or not. -/
theorem st_cases (x : St) : x.s < 1 ∨ (¬ x.s < 1 ∧ 20 < x.s) ∨ (¬ x.s < 1 ∧ ¬ 20 < x.s ∧ x.d < 0) ∨ (¬ x.s < 1 ∧ ¬ 20 < x.s ∧ ¬ x.d < 0 ∧ 99 < x.d) ∨ (¬ x.s < 1 ∧ ¬ 20 < x.s ∧ ¬ x.d < 0 ∧ ¬ 99 < x.d ∧ stP1 x) := by
  unfold stP1; omega
theorem st_pair (y x : St) : x.s ≤ y.s ∨ (¬ x.s ≤ y.s ∧ x.d < y.d) ∨ (¬ x.s ≤ y.s ∧ ¬ x.d < y.d ∧ stR y x) := by
  unfold stR; omega
set_option maxHeartbeats 4000000 in
theorem implStampsOk_any (xs : List St) (v : Value) (w : World) (lo hi : Nat) (hhi : hi ≤ w.heap.size) (h : RSl RSt 2 w lo hi xs [v]) (b : Bool) (hb : b = true ↔ stP xs) :
    Calls Try.prog 94 #[v] w fun e w' => e = .returned (.bool b) ∧ Below w.heap.size w w' := by
  have HB := Lib.hid hb; clear hb
  obtain ⟨A, c, rfl⟩ := h.form
  obtain ⟨_, hc, hx⟩ := h.len_
  unfold maxLen at hx
  go_enter Try.func94, Try.ntmps94
  go_wp2_with fail
  go_loopw [7] (fun i wr => ∃ k : Nat, k ≤ xs.length ∧ i = .int .i64 k ∧ stA (xs.take k) ∧ Below w.heap.size w wr) (fun i _ => xs.length - (intOf i).toNat)
  case atStart => exact ⟨0, Nat.zero_le _, rfl, stA_nil, Below.refl _ _⟩
  case round =>
    obtain ⟨k, hk, rfl, hn, hbr⟩ := hrel
    have HN := Lib.hid hn; clear hn
    have g2 := sl_keep RSt.loc h hbr hhi
    by_cases hlt : k < xs.length
    · obtain ⟨x, hxk⟩ := some_of_lt hlt
      obtain ⟨b1, off, rfl, _, _, h64, hcell, hcell1⟩ := st_at g2 hxk
      have HX := Lib.hid hxk; clear hxk
      have hba := below_alloc wr (.cells #[.int .i64 x.s, .int .i64 x.d] 76)
      have n0 := new_cell wr #[.int .i64 x.s, .int .i64 x.d] 76 0 rfl
      have n1 := new_cell wr #[.int .i64 x.s, .int .i64 x.d] 76 1 rfl
      have hbz := hbr.trans (hba.mono hbr.size)
      have hprev : k = 0 ∨ ∃ j y, k = j + 1 ∧ xs[j]? = some y ∧ wr.cell? ⟨b1, off + j * 2, none⟩ = some (.int .i64 y.s) ∧ wr.cell? ⟨b1, off + j * 2 + 1, none⟩ = some (.int .i64 y.d) := by
        rcases Nat.eq_zero_or_pos k with h0 | h0
        · exact .inl h0
        · obtain ⟨y, hyk⟩ := some_of_lt (l := xs) (k := k - 1) (by omega)
          obtain ⟨b2, off2, hbo, _, _, _, hcell3, hcell4⟩ := st_at g2 hyk
          simp only [Option.some.injEq, Addr.mk.injEq, and_true] at hbo
          obtain ⟨rfl, rfl⟩ := hbo
          exact .inr ⟨k - 1, y, by omega, hyk, hcell3, hcell4⟩
      rcases st_cases x with c1 | ⟨c1, c2⟩ | ⟨c1, c2, c3⟩ | ⟨c1, c2, c3, c4⟩ | ⟨c1, c2, c3, c4, hok⟩
      · have t1 : decide (x.s < 1) = true := decide_eq_true c1
        have hf : b = false := by rw [← Bool.not_eq_true, HB.out]; exact fun hp => st_no HX.out (fun hp => by unfold stP1 at hp; omega) hp.1
        have HF := Lib.hid hf; clear hf
        clear hprev HN
        go_wp2_with fail
        go_ret
        exact ⟨ret_bool HF.out.symm, hbz⟩
      · have t1 : decide (x.s < 1) = false := decide_eq_false c1
        have t2 : decide (20 < x.s) = true := decide_eq_true c2
        have hf : b = false := by rw [← Bool.not_eq_true, HB.out]; exact fun hp => st_no HX.out (fun hp => by unfold stP1 at hp; omega) hp.1
        have HF := Lib.hid hf; clear hf
        clear hprev HN
        go_wp2_with fail
        go_ret
        exact ⟨ret_bool HF.out.symm, hbz⟩
      · have t1 : decide (x.s < 1) = false := decide_eq_false c1
        have t2 : decide (20 < x.s) = false := decide_eq_false c2
        have t3 : decide (x.d < 0) = true := decide_eq_true c3
        have hf : b = false := by rw [← Bool.not_eq_true, HB.out]; exact fun hp => st_no HX.out (fun hp => by unfold stP1 at hp; omega) hp.1
        have HF := Lib.hid hf; clear hf
        clear hprev HN
        go_wp2_with fail
        go_ret
        exact ⟨ret_bool HF.out.symm, hbz⟩
      · have t1 : decide (x.s < 1) = false := decide_eq_false c1
        have t2 : decide (20 < x.s) = false := decide_eq_false c2
        have t3 : decide (x.d < 0) = false := decide_eq_false c3
        have t4 : decide (99 < x.d) = true := decide_eq_true c4
        have hf : b = false := by rw [← Bool.not_eq_true, HB.out]; exact fun hp => st_no HX.out (fun hp => by unfold stP1 at hp; omega) hp.1
        have HF := Lib.hid hf; clear hf
        clear hprev HN
        go_wp2_with fail
        go_ret
        exact ⟨ret_bool HF.out.symm, hbz⟩
      · have t1 : decide (x.s < 1) = false := decide_eq_false c1
        have t2 : decide (20 < x.s) = false := decide_eq_false c2
        have t3 : decide (x.d < 0) = false := decide_eq_false c3
        have t4 : decide (99 < x.d) = false := decide_eq_false c4
        have H1 := Lib.hid hok; clear hok
        rcases hprev with rfl | ⟨j, y, rfl, hyk, hcell3, hcell4⟩
        · simp only [Nat.zero_mul, Nat.add_zero] at hcell hcell1
          have hnext := st_yes0 HX.out H1.out
          have HK := Lib.hid hnext; clear hnext
          go_wp2_with fail
          generalize wr.alloc (.cells #[.int .i64 x.s, .int .i64 x.d] 76) = wa at *
          go_quiet (fail)
          have hb3 := below_drewN hbz nq
          go_wp2_with fail
          go_roundw
          case rel => exact ⟨1, by omega, by go_num, HK.out, hb3⟩
          case measure => simp [intOf]; omega
        · have HY := Lib.hid hyk; clear hyk
          have m3 := cell_keep hba hcell3
          have m4 := cell_keep hba hcell4
          rcases st_pair y x with d1 | ⟨d1, d2⟩ | ⟨d1, d2, hrr⟩
          · have u1 : decide (x.s ≤ y.s) = true := decide_eq_true d1
            have hf : b = false := by rw [← Bool.not_eq_true, HB.out]; exact fun hp => st_no2 HY.out HX.out (fun hp => by unfold stR at hp; omega) hp.1
            have HF := Lib.hid hf; clear hf
            go_wp2_with fail
            generalize wr.alloc (.cells #[.int .i64 x.s, .int .i64 x.d] 76) = wa at *
            go_quiet (fail)
            go_wp2_with fail
            go_ret
            exact ⟨ret_bool HF.out.symm, below_drewN hbz nq⟩
          · have u1 : decide (x.s ≤ y.s) = false := decide_eq_false d1
            have u2 : decide (x.d < y.d) = true := decide_eq_true d2
            have hf : b = false := by rw [← Bool.not_eq_true, HB.out]; exact fun hp => st_no2 HY.out HX.out (fun hp => by unfold stR at hp; omega) hp.1
            have HF := Lib.hid hf; clear hf
            go_wp2_with fail
            generalize wr.alloc (.cells #[.int .i64 x.s, .int .i64 x.d] 76) = wa at *
            go_quiet (fail)
            go_wp2_with fail
            go_ret
            exact ⟨ret_bool HF.out.symm, below_drewN hbz nq⟩
          · have u1 : decide (x.s ≤ y.s) = false := decide_eq_false d1
            have u2 : decide (x.d < y.d) = false := decide_eq_false d2
            have hnext := st_yes HN.out HY.out HX.out H1.out hrr
            have HK := Lib.hid hnext; clear hnext hrr
            go_wp2_with fail
            generalize wr.alloc (.cells #[.int .i64 x.s, .int .i64 x.d] 76) = wa at *
            go_quiet (fail)
            have hb3 := below_drewN hbz nq
            go_wp2_with fail
            go_roundw
            case rel => exact ⟨j + 1 + 1, by omega, by go_num, HK.out, hb3⟩
            case measure => simp [intOf]; omega
    · obtain rfl : k = xs.length := by omega
      have hall : b = decide (xs.length ≤ 12) := by
        have h1 := HN.out
        rw [List.take_length] at h1
        rw [Bool.eq_iff_iff, HB.out, decide_eq_true_iff]
        exact ⟨fun h => h.2, fun h => ⟨h1, h⟩⟩
      have HA := Lib.hid hall; clear hall HN
      by_cases hle : xs.length ≤ 12
      · have u1 : decide (xs.length ≤ 12) = true := decide_eq_true hle
        have u2 : decide ((xs.length : Int) ≤ 12) = true := decide_eq_true (by omega)
        go_wp2_with fail
        go_ret
        exact ⟨ret_bool (by rw [HA.out, u1]), hbr⟩
      · have u1 : decide (xs.length ≤ 12) = false := decide_eq_false hle
        have u2 : decide ((xs.length : Int) ≤ 12) = false := decide_eq_false (by omega)
        go_wp2_with fail
        go_ret
        exact ⟨ret_bool (by rw [HA.out, u1]), hbr⟩
end Go.Proofs.Ytpdbohjgmghgkaa
