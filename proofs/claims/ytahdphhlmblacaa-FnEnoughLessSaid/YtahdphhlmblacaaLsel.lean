/- The law FnEnoughLess: if more are lost fewer must be drawn. No condition. -/
import Derived.Test.YtahdphhlmblacaaLaw
import Derived.Test.YtahdphhlmblacaaSam
import Derived.Test.YtahdphhlmblacaaDrS
namespace Go.Proofs.Ytahdphhlmblacaa.lawsel
open Go.RowKit Go.ChangeShapes Go.WideShapes Go.ChangeAt

set_option maxHeartbeats 1000000 in
theorem walk (l : List Int) {v : Value} {w : World} (h : RSl RByte 1 w 0 w.heap.size l [v]) (l2 : List Int) {v2 : Value} (h2 : RSl RByte 1 w 0 w.heap.size l2 [v2]) (w' : World) (hw : w' = w := by rfl) :
    Calls Try.prog 10 #[v, v2] w' fun e w' => e = .returned (.bool true) ∧ Below w.heap.size w w' := by
  subst hw
  obtain ⟨A, c, rfl⟩ := h.form
  obtain ⟨A2, c2, rfl⟩ := h2.form
  have hlen : l.length ≤ maxLen := by obtain ⟨_, h1, h2⟩ := h.len_; omega
  have hlen2 : l2.length ≤ maxLen := by obtain ⟨_, h1, h2⟩ := h2.len_; omega
  unfold maxLen at hlen hlen2
  by_cases hbig : 1048576 < l.length
  · go_enter Try.func10, Try.ntmps10
    go_wp2_with fail
    go_ret
    exact ⟨rfl, Below.refl _ _⟩
  by_cases hbig2 : 1048576 < l2.length
  · go_enter Try.func10, Try.ntmps10
    go_wp2_with fail
    go_ret
    exact ⟨rfl, Below.refl _ _⟩
  go_enter Try.func10, Try.ntmps10
  go_wp2_with fail
  refine (drawEnough_any l A _ c _ h).mono ?_
  rintro e w1 ⟨m, lo, o, rfl, ⟨hm1, hm2⟩, ⟨hl1, hl2⟩, ⟨ho1, ho2⟩, hb1⟩
  rcases sEnough_neg m lo o with ⟨g1, g2, g3, g4, g5, g6, g7, g8⟩ | hneg
  · have hp : (l2.length : Int) % 50 < 50 := by omega
    have hp' : 0 ≤ (l2.length : Int) % 50 := by omega
    generalize hx : (l2.length : Int) % 50 = x at hp hp'
    by_cases hp2 : o + x ≤ 999
    · have q1 := enough_more_of m lo o (o + x) ⟨g1, g2, g3, g4, g5, g6⟩ (by omega) hp2
      by_cases hlm : lo = m
      · have t1 : (lo == m) = true := beq_iff_eq.2 hlm
        have HL := Lib.hid hlm; clear hlm
        go_wp2_with fail
        refine (implEnough_any _ _ _ _).mono ?_
        rintro e w2 ⟨rfl, hb2⟩
        go_wp2_with fail
        refine (specEnough_any _ _ _ _).mono ?_
        rintro e w3 ⟨rfl, rfl⟩
        go_wp2_with fail
        refine (implEnough_any _ _ _ _).mono ?_
        rintro e w4 ⟨rfl, hb4⟩
        go_wp2_with fail
        go_ret
        exact ⟨rfl, below_below (below_below hb1 hb2) hb4⟩
      · have t1 : (lo == m) = false := beq_eq_false_iff_ne.2 hlm
        have q2 := enough_less_lost m lo o ⟨g1, g2, g3, by omega, g5, g6⟩
        go_wp2_with fail
        refine (implEnough_any _ _ _ _).mono ?_
        rintro e w2 ⟨rfl, hb2⟩
        go_wp2_with fail
        refine (specEnough_any _ _ _ _).mono ?_
        rintro e w3 ⟨rfl, rfl⟩
        go_wp2_with fail
        refine (implEnough_any _ _ _ _).mono ?_
        rintro e w4 ⟨rfl, hb4⟩
        go_wp2_with fail
        refine (implEnough_any _ _ _ _).mono ?_
        rintro e w5 ⟨rfl, hb5⟩
        go_wp2_with fail
        go_ret
        exact ⟨rfl, below_below (below_below (below_below hb1 hb2) hb4) hb5⟩
    · have q1 := enough_more_of m lo o 999 ⟨g1, g2, g3, g4, g5, g6⟩ (by omega) (by omega)
      by_cases hlm : lo = m
      · have t1 : (lo == m) = true := beq_iff_eq.2 hlm
        have HL := Lib.hid hlm; clear hlm
        go_wp2_with fail
        refine (implEnough_any _ _ _ _).mono ?_
        rintro e w2 ⟨rfl, hb2⟩
        go_wp2_with fail
        refine (specEnough_any _ _ _ _).mono ?_
        rintro e w3 ⟨rfl, rfl⟩
        go_wp2_with fail
        refine (implEnough_any _ _ _ _).mono ?_
        rintro e w4 ⟨rfl, hb4⟩
        go_wp2_with fail
        go_ret
        exact ⟨rfl, below_below (below_below hb1 hb2) hb4⟩
      · have t1 : (lo == m) = false := beq_eq_false_iff_ne.2 hlm
        have q2 := enough_less_lost m lo o ⟨g1, g2, g3, by omega, g5, g6⟩
        go_wp2_with fail
        refine (implEnough_any _ _ _ _).mono ?_
        rintro e w2 ⟨rfl, hb2⟩
        go_wp2_with fail
        refine (specEnough_any _ _ _ _).mono ?_
        rintro e w3 ⟨rfl, rfl⟩
        go_wp2_with fail
        refine (implEnough_any _ _ _ _).mono ?_
        rintro e w4 ⟨rfl, hb4⟩
        go_wp2_with fail
        refine (implEnough_any _ _ _ _).mono ?_
        rintro e w5 ⟨rfl, hb5⟩
        go_wp2_with fail
        go_ret
        exact ⟨rfl, below_below (below_below (below_below hb1 hb2) hb4) hb5⟩
  · go_wp2_with fail
    refine (implEnough_any _ _ _ _).mono ?_
    rintro e w2 ⟨rfl, hb2⟩
    go_wp2_with fail
    refine (specEnough_any _ _ _ _).mono ?_
    rintro e w3 ⟨rfl, rfl⟩
    go_wp2_with fail
    refine (specEnough_any _ _ _ _).mono ?_
    rintro e w3 ⟨rfl, rfl⟩
    go_wp2_with fail
    go_ret
    exact ⟨rfl, below_below hb1 hb2⟩

theorem lifted (os : Os) (started : os.Started) (H : Type) (enc : TypeId × Value → H) :
    ReturnsInHanded {} Try.checked os 10 .any (Rows.fnEnoughLessSpec.pre6 enc Try.prog Try.f10 Rows.fnEnoughLessRow.domain false) (Rows.fnEnoughLessSpec.post enc Try.prog Try.f10 false true false false) := by
  refine law_lifted own started (by kernel_rfl) Try.func10 laidOut (by kernel_rfl) rfl Try.underlying4 rfl (fun ds hl => ?_)
    (ChangeSpec.witness6 (enc := enc) (C := Try.checked) false ⟨#[], #[.slice none 0 0, .slice none 0 0], []⟩ 8 (by kernel_rfl) (by kernel_rfl) (by kernel_rfl) (by kernel_rfl)) ?_
  · match ds, hl with
    | [_, _], _ => rfl
  intro W base args ds p hval0 hA hlt hsz hsh
  have hval : ∀ (j : Nat) t v, Try.f10.params[j]? = some t → args[j]? = some v → Value.okWide Try.prog W .any base t v := hval0
  rw [Try.params10] at hA hval
  obtain ⟨v0, v1, d0, d1, p0, p1, rfl, rfl, rfl, h0, h1⟩ := trodAll_two hA
  obtain ⟨a0_0, r0⟩ := open_byte_slice (hval 0 26 v0 rfl rfl) h0 (by first | exact hlt | exact fun x hx => hlt x (by simp [hx]))
  obtain ⟨a1_0, r1⟩ := open_byte_slice (hval 1 26 v1 rfl rfl) h1 (by first | exact hlt | exact fun x hx => hlt x (by simp [hx]))
  exact walk a0_0 r0 a1_0 r1 W

theorem proved : Rows.FnEnoughLessSaid :=
  OpenClaim.holds_of_wide 10 Try.f10 rfl rfl rfl rfl rfl rfl rfl ⟨rfl, rfl, rfl, rfl, rfl⟩ rfl rfl rfl rfl rfl (by kernel_rfl) Try.func10 (by kernel_rfl)
    (of_decide_eq_true (by kernel_rfl)) (by unfold Func.isWrapper; first | (rw [if_pos (by decide +kernel)]; kernel_rfl) | (rw [if_neg (by decide +kernel)]; exact ⟨rfl, rfl⟩))
    (fun os started H enc _ => lifted os started H enc)
#print axioms proved
end Go.Proofs.Ytahdphhlmblacaa.lawsel
