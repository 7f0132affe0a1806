/- The law FnSampleAll: ways are those with the first one, and those without. No condition. -/
import Derived.Test.YtahdphhlmblacaaLaw
import Derived.Test.YtahdphhlmblacaaSam
import Derived.Test.YtahdphhlmblacaaDrS
namespace Go.Proofs.Ytahdphhlmblacaa.lawsa
open Go.RowKit Go.ChangeShapes Go.WideShapes Go.ChangeAt

theorem walk (l : List Int) {v : Value} {w : World} (h : RSl RByte 1 w 0 w.heap.size l [v]) (w' : World) (hw : w' = w := by rfl) :
    Calls Try.prog 5 #[v] w' fun e w' => e = .returned (.bool true) ∧ Below w.heap.size w w' := by
  subst hw
  obtain ⟨A, c, rfl⟩ := h.form
  have hlen : l.length ≤ maxLen := by obtain ⟨_, h1, h2⟩ := h.len_; omega
  unfold maxLen at hlen
  by_cases hbig : 1048576 < l.length
  · go_enter Try.func5, Try.ntmps5
    go_wp2_with fail
    go_ret
    exact ⟨rfl, Below.refl _ _⟩
  go_enter Try.func5, Try.ntmps5
  go_wp2_with fail
  refine (drawAll_any l A _ c _ h).mono ?_
  rintro e w1 ⟨m, d, rfl, ⟨hm1, hm2⟩, ⟨hd1, hd2⟩, hb1⟩
  have bd := sAll_bd m d
  by_cases hv : m ≤ 20 ∧ 0 ≤ d ∧ d ≤ m
  · obtain ⟨hv1, hv2, hv3⟩ := hv
    have pos := sAll_pos m d hm1 hv1 hv2 hv3
    have z1 : (sAll m d == 0) = false := by rw [beq_eq_false_iff_ne]; omega
    by_cases h0 : m = 0
    · subst h0
      obtain rfl : d = 0 := by omega
      have one := sAll_zero 0 (by omega) (by omega)
      go_wp2_with fail
      refine (implAll_any _ _ _).mono ?_
      rintro e w2 ⟨rfl, hb2⟩
      go_wp2_with fail
      refine (specAll_any _ _ _).mono ?_
      rintro e w2 ⟨rfl, rfl⟩
      go_wp2_with fail
      go_ret
      exact ⟨rfl, below_below hb1 hb2⟩
    · by_cases h0' : d = 0
      · subst h0'
        have one := sAll_zero m (by omega) (by omega)
        go_wp2_with fail
        refine (implAll_any _ _ _).mono ?_
        rintro e w2 ⟨rfl, hb2⟩
        go_wp2_with fail
        refine (specAll_any _ _ _).mono ?_
        rintro e w2 ⟨rfl, rfl⟩
        go_wp2_with fail
        go_ret
        exact ⟨rfl, below_below hb1 hb2⟩
      · have q1 : (sAll m d == sAll (m - 1) (d - 1) + sAll (m - 1) d) = true := beq_iff_eq.2 (sAll_pascal m d (by omega) hv1 (by omega) hv3)
        have q2 : (sAll m d == sAll m (m - d)) = true := beq_iff_eq.2 (sAll_sym m d hm1 hv1 hv2 hv3)
        have bd1 := sAll_bd (m - 1) (d - 1)
        have bd2 := sAll_bd (m - 1) d
        have t1 : (m == 0) = false := beq_eq_false_iff_ne.2 h0
        have t2 : (d == 0) = false := beq_eq_false_iff_ne.2 h0'
        go_wp2_with fail
        refine (implAll_any _ _ _).mono ?_
        rintro e w2 ⟨rfl, hb2⟩
        go_wp2_with fail
        refine (specAll_any _ _ _).mono ?_
        rintro e w2 ⟨rfl, rfl⟩
        go_wp2_with fail
        refine (implAll_any _ _ _).mono ?_
        rintro e w3 ⟨rfl, hb3⟩
        go_wp2_with fail
        refine (implAll_any _ _ _).mono ?_
        rintro e w4 ⟨rfl, hb4⟩
        go_wp2_with fail
        refine (implAll_any _ _ _).mono ?_
        rintro e w5 ⟨rfl, hb5⟩
        go_wp2_with fail
        go_ret
        exact ⟨rfl, below_below (below_below (below_below (below_below hb1 hb2) hb3) hb4) hb5⟩
  · have z : sAll m d = 0 := sAll_no m d (by omega)
    rcases (by omega : d < 0 ∨ (0 ≤ d ∧ m < d) ∨ ((0 ≤ d ∧ d ≤ m) ∧ 20 < m)) with h1 | ⟨h1, h2⟩ | ⟨⟨h1, h2⟩, h3⟩
    all_goals
      go_wp2_with fail
      refine (implAll_any _ _ _).mono ?_
      rintro e w2 ⟨rfl, hb2⟩
      go_wp2_with fail
      refine (specAll_any _ _ _).mono ?_
      rintro e w2 ⟨rfl, rfl⟩
      go_wp2_with fail
      refine (specAll_any _ _ _).mono ?_
      rintro e w2 ⟨rfl, rfl⟩
      go_wp2_with fail
      go_ret
      exact ⟨rfl, below_below hb1 hb2⟩

theorem lifted (os : Os) (started : os.Started) (H : Type) (enc : TypeId × Value → H) :
    ReturnsInHanded {} Try.checked os 5 .any (Rows.fnSampleAllSpec.pre6 enc Try.prog Try.f5 Rows.fnSampleAllRow.domain false) (Rows.fnSampleAllSpec.post enc Try.prog Try.f5 false true false false) := by
  refine law_lifted own started (by kernel_rfl) Try.func5 laidOut (by kernel_rfl) rfl Try.underlying4 rfl (fun ds hl => ?_)
    (ChangeSpec.witness6 (enc := enc) (C := Try.checked) false ⟨#[], #[.slice none 0 0], []⟩ 8 (by kernel_rfl) (by kernel_rfl) (by kernel_rfl) (by kernel_rfl)) ?_
  · match ds, hl with
    | [_], _ => rfl
  intro W base args ds p hval0 hA hlt hsz hsh
  have hval : ∀ (j : Nat) t v, Try.f5.params[j]? = some t → args[j]? = some v → Value.okWide Try.prog W .any base t v := hval0
  rw [Try.params5] at hA hval
  obtain ⟨v0, d0, rfl, rfl, h0⟩ := trodAll_one hA
  obtain ⟨a0_0, r0⟩ := open_byte_slice (hval 0 26 v0 rfl rfl) h0 (by first | exact hlt | exact fun x hx => hlt x (by simp [hx]))
  exact walk a0_0 r0 W

theorem proved : Rows.FnSampleAllSaid :=
  OpenClaim.holds_of_wide 5 Try.f5 rfl rfl rfl rfl rfl rfl rfl ⟨rfl, rfl, rfl, rfl, rfl⟩ rfl rfl rfl rfl rfl (by kernel_rfl) Try.func5 (by kernel_rfl)
    (of_decide_eq_true (by kernel_rfl)) (by unfold Func.isWrapper; first | (rw [if_pos (by decide +kernel)]; kernel_rfl) | (rw [if_neg (by decide +kernel)]; exact ⟨rfl, rfl⟩))
    (fun os started H enc _ => lifted os started H enc)
#print axioms proved
end Go.Proofs.Ytahdphhlmblacaa.lawsa
