/- The law FnSampleSum: all ways together are two, so often as there are any. No condition. -/
import Derived.Test.YtahdphhlmblacaaLaw
import Derived.Test.YtahdphhlmblacaaSam
import Derived.Test.YtahdphhlmblacaaDrS
namespace Go.Proofs.Ytahdphhlmblacaa.lawss
open Go.RowKit Go.ChangeShapes Go.WideShapes Go.ChangeAt

theorem walk (l : List Int) {v : Value} {w : World} (h : RSl RByte 1 w 0 w.heap.size l [v]) (w' : World) (hw : w' = w := by rfl) :
    Calls Try.prog 6 #[v] w' fun e w' => e = .returned (.bool true) ∧ Below w.heap.size w w' := by
  subst hw
  obtain ⟨A, c, rfl⟩ := h.form
  have hlen : l.length ≤ maxLen := by obtain ⟨_, h1, h2⟩ := h.len_; omega
  unfold maxLen at hlen
  by_cases hbig : 1048576 < l.length
  · go_enter Try.func6, Try.ntmps6
    go_wp2_with fail
    go_ret
    exact ⟨rfl, Below.refl _ _⟩
  go_enter Try.func6, Try.ntmps6
  go_wp2_with fail
  refine (drawAll_any l A _ c _ h).mono ?_
  rintro e w1 ⟨m, d, rfl, ⟨hm1, hm2⟩, ⟨hd1, hd2⟩, hb1⟩
  have bd := sAll_bd m d
  by_cases hv : m ≤ 20 ∧ 0 ≤ d ∧ d ≤ m
  · obtain ⟨hv1, hv2, hv3⟩ := hv
    have pos := sAll_pos m d hm1 hv1 hv2 hv3
    have z1 : (sAll m d == 0) = false := by rw [beq_eq_false_iff_ne]; omega
    obtain ⟨m, rfl⟩ := Int.eq_ofNat_of_zero_le hm1
    go_wp2_with fail
    refine (implAll_any _ _ _).mono ?_
    rintro e w2 ⟨rfl, hb2⟩
    go_wp2_with fail
    refine (specAll_any _ _ _).mono ?_
    rintro e w3 ⟨rfl, rfl⟩
    have hb3 := below_below hb1 hb2
    go_wp2_with fail
    go_loopw [6, 8] (fun s i wr => ∃ k : Nat, k ≤ m + 1 ∧ i = .int .i64 k ∧ s = .int .i64 (rowSum m k) ∧ Below w'.heap.size w' wr) (fun _ i _ => m + 1 - (intOf i).toNat)
    case atStart => exact ⟨0, by omega, rfl, rfl, hb3⟩
    case round =>
      obtain ⟨k, hk, rfl, rfl, hbr⟩ := hrel
      have hs := rowSum_le m k (by omega)
      by_cases hlt : k ≤ m
      · have hbk := bin_le m k (by omega)
        have he := sAll_nat m k (by omega) hlt
        go_wp2_with fail
        refine (implAll_any _ _ _).mono ?_
        rintro e w4 ⟨rfl, hb4⟩
        go_wp2_with fail
        go_roundw
        case rel => exact ⟨k + 1, by omega, by go_num, by go_num, below_below hbr hb4⟩
        case measure => simp [intOf]; omega
      · obtain rfl : k = m + 1 := by omega
        have hall := Lib.hid (rowSum_all m)
        go_wp2_with fail
        go_loop [7, 9] (fun t i => ∃ k : Nat, k ≤ m ∧ i = .int .i64 k ∧ t = .int .i64 ((2 ^ k : Nat) : Int)) (fun _ i => m - (intOf i).toNat)
        case atStart => exact ⟨0, by omega, rfl, rfl⟩
        case round =>
          obtain ⟨k, hk, rfl, rfl⟩ := hrel
          have hp : 2 ^ k ≤ 2 ^ 20 := Nat.pow_le_pow_right (by omega) (by omega)
          have hp1 := Lib.hid (Nat.pow_succ (n := 2) (m := k))
          generalize hP : 2 ^ k = P at *
          have HP := Lib.hid hP; clear hP
          by_cases hlt2 : k < m
          · go_wp2_with fail
            go_round
            case rel => exact ⟨k + 1, by omega, by go_num, by rw [hp1.out]; go_num⟩
            case measure => simp [intOf]; omega
          · obtain rfl : k = m := by omega
            have hq : ((rowSum k (k + 1) : Nat) : Int) == (P : Int) := by rw [hall.out, HP.out]; exact beq_self_eq_true _
            go_wp2_with fail
            go_ret
            exact ⟨rfl, hbr⟩
  · have z : sAll m d = 0 := sAll_no m d (by omega)
    rcases (by omega : d < 0 ∨ (0 ≤ d ∧ m < d) ∨ ((0 ≤ d ∧ d ≤ m) ∧ 20 < m)) with h1 | ⟨h1, h2⟩ | ⟨⟨h1, h2⟩, h3⟩
    all_goals
      go_wp2_with fail
      refine (implAll_any _ _ _).mono ?_
      rintro e w2 ⟨rfl, hb2⟩
      go_wp2_with fail
      refine (specAll_any _ _ _).mono ?_
      rintro e w3 ⟨rfl, rfl⟩
      go_wp2_with fail
      refine (specAll_any _ _ _).mono ?_
      rintro e w3 ⟨rfl, rfl⟩
      go_wp2_with fail
      go_ret
      exact ⟨rfl, below_below hb1 hb2⟩

theorem lifted (os : Os) (started : os.Started) (H : Type) (enc : TypeId × Value → H) :
    ReturnsInHanded {} Try.checked os 6 .any (Rows.fnSampleSumSpec.pre6 enc Try.prog Try.f6 Rows.fnSampleSumRow.domain false) (Rows.fnSampleSumSpec.post enc Try.prog Try.f6 false true false false) := by
  refine law_lifted own started (by kernel_rfl) Try.func6 laidOut (by kernel_rfl) rfl Try.underlying4 rfl (fun ds hl => ?_)
    (ChangeSpec.witness6 (enc := enc) (C := Try.checked) false ⟨#[], #[.slice none 0 0], []⟩ 8 (by kernel_rfl) (by kernel_rfl) (by kernel_rfl) (by kernel_rfl)) ?_
  · match ds, hl with
    | [_], _ => rfl
  intro W base args ds p hval0 hA hlt hsz hsh
  have hval : ∀ (j : Nat) t v, Try.f6.params[j]? = some t → args[j]? = some v → Value.okWide Try.prog W .any base t v := hval0
  rw [Try.params6] at hA hval
  obtain ⟨v0, d0, rfl, rfl, h0⟩ := trodAll_one hA
  obtain ⟨a0_0, r0⟩ := open_byte_slice (hval 0 26 v0 rfl rfl) h0 (by first | exact hlt | exact fun x hx => hlt x (by simp [hx]))
  exact walk a0_0 r0 W

theorem proved : Rows.FnSampleSumSaid :=
  OpenClaim.holds_of_wide 6 Try.f6 rfl rfl rfl rfl rfl rfl rfl ⟨rfl, rfl, rfl, rfl, rfl⟩ rfl rfl rfl rfl rfl (by kernel_rfl) Try.func6 (by kernel_rfl)
    (of_decide_eq_true (by kernel_rfl)) (by unfold Func.isWrapper; first | (rw [if_pos (by decide +kernel)]; kernel_rfl) | (rw [if_neg (by decide +kernel)]; exact ⟨rfl, rfl⟩))
    (fun os started H enc _ => lifted os started H enc)
#print axioms proved
end Go.Proofs.Ytahdphhlmblacaa.lawss
