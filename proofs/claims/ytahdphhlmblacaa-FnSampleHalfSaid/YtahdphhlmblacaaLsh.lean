/- The law FnSampleHalf: if half is lost few must be drawn. No condition. -/
import Derived.Test.YtahdphhlmblacaaLaw
import Derived.Test.YtahdphhlmblacaaSam
import Derived.Test.YtahdphhlmblacaaDrS
namespace Go.Proofs.Ytahdphhlmblacaa.lawsh
open Go.RowKit Go.ChangeShapes Go.WideShapes Go.ChangeAt

theorem walk (l : List Int) {v : Value} {w : World} (h : RSl RByte 1 w 0 w.heap.size l [v]) (w' : World) (hw : w' = w := by rfl) :
    Calls Try.prog 12 #[v] w' fun e w' => e = .returned (.bool true) ∧ Below w.heap.size w w' := by
  subst hw
  obtain ⟨A, c, rfl⟩ := h.form
  have hlen : l.length ≤ maxLen := by obtain ⟨_, h1, h2⟩ := h.len_; omega
  unfold maxLen at hlen
  by_cases hbig : 1048576 < l.length
  · go_enter Try.func12, Try.ntmps12
    go_wp2_with fail
    go_ret
    exact ⟨rfl, Below.refl _ _⟩
  go_enter Try.func12, Try.ntmps12
  go_wp2_with fail
  refine (drawEnough_any l A _ c _ h).mono ?_
  rintro e w1 ⟨m, lo, o, rfl, ⟨hm1, hm2⟩, ⟨hl1, hl2⟩, ⟨ho1, ho2⟩, hb1⟩
  rcases sEnough_neg m lo o with ⟨g1, g2, g3, g4, g5, g6, g7, g8⟩ | hneg
  · have q1 := enough_lost_all m o ⟨g1, g2, g5, g6⟩
    have q2 := enough_ones m lo ⟨g1, g2, g3, g4⟩
    by_cases hh : 2 * lo < m
    · go_wp2_with fail
      refine (implEnough_any _ _ _ _).mono ?_
      rintro e w2 ⟨rfl, hb2⟩
      go_wp2_with fail
      refine (specEnough_any _ _ _ _).mono ?_
      rintro e w3 ⟨rfl, rfl⟩
      go_wp2_with fail
      refine (implEnough_any _ _ _ _).mono ?_
      rintro e w4 ⟨rfl, hb4⟩
      go_wp2_with fail
      refine (implEnough_any _ _ _ _).mono ?_
      rintro e w5 ⟨rfl, hb5⟩
      go_wp2_with fail
      go_ret
      exact ⟨rfl, below_below (below_below (below_below hb1 hb2) hb4) hb5⟩
    · have q3 := enough_half m lo ⟨g1, g2, g3, g4⟩ (by omega)
      go_wp2_with fail
      refine (implEnough_any _ _ _ _).mono ?_
      rintro e w2 ⟨rfl, hb2⟩
      go_wp2_with fail
      refine (specEnough_any _ _ _ _).mono ?_
      rintro e w3 ⟨rfl, rfl⟩
      go_wp2_with fail
      refine (implEnough_any _ _ _ _).mono ?_
      rintro e w4 ⟨rfl, hb4⟩
      go_wp2_with fail
      refine (implEnough_any _ _ _ _).mono ?_
      rintro e w5 ⟨rfl, hb5⟩
      go_wp2_with fail
      refine (implEnough_any _ _ _ _).mono ?_
      rintro e w6 ⟨rfl, hb6⟩
      go_wp2_with fail
      go_ret
      exact ⟨rfl, below_below (below_below (below_below (below_below hb1 hb2) hb4) hb5) hb6⟩
  · go_wp2_with fail
    refine (implEnough_any _ _ _ _).mono ?_
    rintro e w2 ⟨rfl, hb2⟩
    go_wp2_with fail
    refine (specEnough_any _ _ _ _).mono ?_
    rintro e w3 ⟨rfl, rfl⟩
    go_wp2_with fail
    refine (specEnough_any _ _ _ _).mono ?_
    rintro e w3 ⟨rfl, rfl⟩
    go_wp2_with fail
    go_ret
    exact ⟨rfl, below_below hb1 hb2⟩

theorem lifted (os : Os) (started : os.Started) (H : Type) (enc : TypeId × Value → H) :
    ReturnsInHanded {} Try.checked os 12 .any (Rows.fnSampleHalfSpec.pre6 enc Try.prog Try.f12 Rows.fnSampleHalfRow.domain false) (Rows.fnSampleHalfSpec.post enc Try.prog Try.f12 false true false false) := by
  refine law_lifted own started (by kernel_rfl) Try.func12 laidOut (by kernel_rfl) rfl Try.underlying4 rfl (fun ds hl => ?_)
    (ChangeSpec.witness6 (enc := enc) (C := Try.checked) false ⟨#[], #[.slice none 0 0], []⟩ 8 (by kernel_rfl) (by kernel_rfl) (by kernel_rfl) (by kernel_rfl)) ?_
  · match ds, hl with
    | [_], _ => rfl
  intro W base args ds p hval0 hA hlt hsz hsh
  have hval : ∀ (j : Nat) t v, Try.f12.params[j]? = some t → args[j]? = some v → Value.okWide Try.prog W .any base t v := hval0
  rw [Try.params12] at hA hval
  obtain ⟨v0, d0, rfl, rfl, h0⟩ := trodAll_one hA
  obtain ⟨a0_0, r0⟩ := open_byte_slice (hval 0 26 v0 rfl rfl) h0 (by first | exact hlt | exact fun x hx => hlt x (by simp [hx]))
  exact walk a0_0 r0 W

theorem proved : Rows.FnSampleHalfSaid :=
  OpenClaim.holds_of_wide 12 Try.f12 rfl rfl rfl rfl rfl rfl rfl ⟨rfl, rfl, rfl, rfl, rfl⟩ rfl rfl rfl rfl rfl (by kernel_rfl) Try.func12 (by kernel_rfl)
    (of_decide_eq_true (by kernel_rfl)) (by unfold Func.isWrapper; first | (rw [if_pos (by decide +kernel)]; kernel_rfl) | (rw [if_neg (by decide +kernel)]; exact ⟨rfl, rfl⟩))
    (fun os started H enc _ => lifted os started H enc)
#print axioms proved
end Go.Proofs.Ytahdphhlmblacaa.lawsh
