/- The law FnSampleMiss: what misses all that is lost is of the others. No condition. -/
import Derived.Test.YtahdphhlmblacaaLaw
import Derived.Test.YtahdphhlmblacaaSam
import Derived.Test.YtahdphhlmblacaaDrS
namespace Go.Proofs.Ytahdphhlmblacaa.lawsm
open Go.RowKit Go.ChangeShapes Go.WideShapes Go.ChangeAt

set_option maxHeartbeats 1000000 in
theorem walk (l : List Int) {v : Value} {w : World} (h : RSl RByte 1 w 0 w.heap.size l [v]) (w' : World) (hw : w' = w := by rfl) :
    Calls Try.prog 9 #[v] w' fun e w' => e = .returned (.bool true) ∧ Below w.heap.size w w' := by
  subst hw
  obtain ⟨A, c, rfl⟩ := h.form
  have hlen : l.length ≤ maxLen := by obtain ⟨_, h1, h2⟩ := h.len_; omega
  unfold maxLen at hlen
  by_cases hbig : 1048576 < l.length
  · go_enter Try.func9, Try.ntmps9
    go_wp2_with fail
    go_ret
    exact ⟨rfl, Below.refl _ _⟩
  go_enter Try.func9, Try.ntmps9
  go_wp2_with fail
  refine (drawMiss_any l A _ c _ h).mono ?_
  rintro e w1 ⟨m, lo, d, rfl, ⟨hm1, hm2⟩, ⟨hl1, hl2⟩, ⟨hd1, hd2⟩, hb1⟩
  have bd := sMiss_bd m lo d
  by_cases hv : m ≤ 20 ∧ lo ≤ m ∧ d ≤ m
  · obtain ⟨hv1, hv2, hv3⟩ := hv
    have q1 : (sMiss m lo d == sAll (m - lo) d) = true := beq_iff_eq.2 (sMiss_yes m lo d (by omega))
    have q2 := sMiss_less m lo d hv1 hl1
    have q3 := sMiss_all m lo d (by omega)
    by_cases hlm : lo = m
    · have t1 : (lo == m) = true := beq_iff_eq.2 hlm
      have HL := Lib.hid hlm; clear hlm
      by_cases hdm : d ≤ m - lo
      · go_wp2_with fail
        refine (implMiss_any _ _ _ _).mono ?_
        rintro e w2 ⟨rfl, hb2⟩
        go_wp2_with fail
        refine (specMiss_any _ _ _ _).mono ?_
        rintro e w3 ⟨rfl, rfl⟩
        go_wp2_with fail
        refine (implAll_any _ _ _).mono ?_
        rintro e w4 ⟨rfl, hb4⟩
        go_wp2_with fail
        refine (implAll_any _ _ _).mono ?_
        rintro e w5 ⟨rfl, hb5⟩
        go_wp2_with fail
        go_ret
        exact ⟨rfl, below_below (below_below (below_below hb1 hb2) hb4) hb5⟩
      · have t2 : (sMiss m lo d == 0) = true := beq_iff_eq.2 (sMiss_none m lo d (by omega))
        go_wp2_with fail
        refine (implMiss_any _ _ _ _).mono ?_
        rintro e w2 ⟨rfl, hb2⟩
        go_wp2_with fail
        refine (specMiss_any _ _ _ _).mono ?_
        rintro e w3 ⟨rfl, rfl⟩
        go_wp2_with fail
        refine (implAll_any _ _ _).mono ?_
        rintro e w4 ⟨rfl, hb4⟩
        go_wp2_with fail
        refine (implAll_any _ _ _).mono ?_
        rintro e w5 ⟨rfl, hb5⟩
        go_wp2_with fail
        go_ret
        exact ⟨rfl, below_below (below_below (below_below hb1 hb2) hb4) hb5⟩
    · have t1 : (lo == m) = false := beq_eq_false_iff_ne.2 hlm
      by_cases hdm : d ≤ m - lo
      · go_wp2_with fail
        refine (implMiss_any _ _ _ _).mono ?_
        rintro e w2 ⟨rfl, hb2⟩
        go_wp2_with fail
        refine (specMiss_any _ _ _ _).mono ?_
        rintro e w3 ⟨rfl, rfl⟩
        go_wp2_with fail
        refine (implAll_any _ _ _).mono ?_
        rintro e w4 ⟨rfl, hb4⟩
        go_wp2_with fail
        refine (implMiss_any _ _ _ _).mono ?_
        rintro e w5 ⟨rfl, hb5⟩
        go_wp2_with fail
        refine (implAll_any _ _ _).mono ?_
        rintro e w6 ⟨rfl, hb6⟩
        go_wp2_with fail
        go_ret
        exact ⟨rfl, below_below (below_below (below_below (below_below hb1 hb2) hb4) hb5) hb6⟩
      · have t2 : (sMiss m lo d == 0) = true := beq_iff_eq.2 (sMiss_none m lo d (by omega))
        go_wp2_with fail
        refine (implMiss_any _ _ _ _).mono ?_
        rintro e w2 ⟨rfl, hb2⟩
        go_wp2_with fail
        refine (specMiss_any _ _ _ _).mono ?_
        rintro e w3 ⟨rfl, rfl⟩
        go_wp2_with fail
        refine (implAll_any _ _ _).mono ?_
        rintro e w4 ⟨rfl, hb4⟩
        go_wp2_with fail
        refine (implMiss_any _ _ _ _).mono ?_
        rintro e w5 ⟨rfl, hb5⟩
        go_wp2_with fail
        refine (implAll_any _ _ _).mono ?_
        rintro e w6 ⟨rfl, hb6⟩
        go_wp2_with fail
        go_ret
        exact ⟨rfl, below_below (below_below (below_below (below_below hb1 hb2) hb4) hb5) hb6⟩
  · rcases (by omega : 20 < m ∨ (m ≤ 20 ∧ m < lo) ∨ ((m ≤ 20 ∧ lo ≤ m) ∧ m < d)) with h1 | ⟨h1, h2⟩ | ⟨⟨h1, h2⟩, h3⟩
    all_goals
      go_wp2_with fail
      refine (implMiss_any _ _ _ _).mono ?_
      rintro e w2 ⟨rfl, hb2⟩
      go_wp2_with fail
      refine (specMiss_any _ _ _ _).mono ?_
      rintro e w3 ⟨rfl, rfl⟩
      go_wp2_with fail
      refine (specMiss_any _ _ _ _).mono ?_
      rintro e w3 ⟨rfl, rfl⟩
      go_wp2_with fail
      go_ret
      exact ⟨rfl, below_below hb1 hb2⟩

theorem lifted (os : Os) (started : os.Started) (H : Type) (enc : TypeId × Value → H) :
    ReturnsInHanded {} Try.checked os 9 .any (Rows.fnSampleMissSpec.pre6 enc Try.prog Try.f9 Rows.fnSampleMissRow.domain false) (Rows.fnSampleMissSpec.post enc Try.prog Try.f9 false true false false) := by
  refine law_lifted own started (by kernel_rfl) Try.func9 laidOut (by kernel_rfl) rfl Try.underlying4 rfl (fun ds hl => ?_)
    (ChangeSpec.witness6 (enc := enc) (C := Try.checked) false ⟨#[], #[.slice none 0 0], []⟩ 8 (by kernel_rfl) (by kernel_rfl) (by kernel_rfl) (by kernel_rfl)) ?_
  · match ds, hl with
    | [_], _ => rfl
  intro W base args ds p hval0 hA hlt hsz hsh
  have hval : ∀ (j : Nat) t v, Try.f9.params[j]? = some t → args[j]? = some v → Value.okWide Try.prog W .any base t v := hval0
  rw [Try.params9] at hA hval
  obtain ⟨v0, d0, rfl, rfl, h0⟩ := trodAll_one hA
  obtain ⟨a0_0, r0⟩ := open_byte_slice (hval 0 26 v0 rfl rfl) h0 (by first | exact hlt | exact fun x hx => hlt x (by simp [hx]))
  exact walk a0_0 r0 W

theorem proved : Rows.FnSampleMissSaid :=
  OpenClaim.holds_of_wide 9 Try.f9 rfl rfl rfl rfl rfl rfl rfl ⟨rfl, rfl, rfl, rfl, rfl⟩ rfl rfl rfl rfl rfl (by kernel_rfl) Try.func9 (by kernel_rfl)
    (of_decide_eq_true (by kernel_rfl)) (by unfold Func.isWrapper; first | (rw [if_pos (by decide +kernel)]; kernel_rfl) | (rw [if_neg (by decide +kernel)]; exact ⟨rfl, rfl⟩))
    (fun os started H enc _ => lifted os started H enc)
#print axioms proved
end Go.Proofs.Ytahdphhlmblacaa.lawsm
