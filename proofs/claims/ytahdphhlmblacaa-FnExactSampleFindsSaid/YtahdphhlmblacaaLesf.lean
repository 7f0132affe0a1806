/- The law FnExactSampleFinds: for all two lists of integers the program's SampleFinds returns what the reference's returns. No condition. -/
import Derived.Test.YtahdphhlmblacaaLaw
import Derived.Test.YtahdphhlmblacaaInts
namespace Go.Proofs.Ytahdphhlmblacaa.lawesf
open Go.RowKit Go.ChangeShapes Go.WideShapes Go.ChangeAt

theorem walk (xs : List Int) {v : Value} {w : World} (h1 : RSl RInt 1 w 0 w.heap.size xs [v]) (ys : List Int) {v2 : Value} (h2 : RSl RInt 1 w 0 w.heap.size ys [v2]) (w' : World) (hw : w' = w := by rfl) :
    Calls Try.prog 7 #[v, v2] w' fun e w' => e = .returned (.bool true) ∧ Below w.heap.size w w' := by
  subst hw
  obtain ⟨A, c, rfl⟩ := h1.form
  obtain ⟨A2, c2, rfl⟩ := h2.form
  have hlen : xs.length ≤ maxLen := by obtain ⟨_, h1, h2⟩ := h1.len_; omega
  have hlen2 : ys.length ≤ maxLen := by obtain ⟨_, h1, h2⟩ := h2.len_; omega
  unfold maxLen at hlen hlen2
  by_cases hbig : 1048576 < xs.length
  · go_enter Try.func7, Try.ntmps7
    go_wp2_with fail
    go_ret
    exact ⟨rfl, Below.refl _ _⟩
  by_cases hbig2 : 1048576 < ys.length
  · go_enter Try.func7, Try.ntmps7
    go_wp2_with fail
    go_ret
    exact ⟨rfl, Below.refl _ _⟩
  have L := RSl.loc (sz := 1) RInt.loc
  have hs1 : xs.length ≤ 1048576 := by omega
  have hs2 : ys.length ≤ 1048576 := by omega
  go_enter Try.func7, Try.ntmps7
  go_wp2_with fail
  refine (toIntS_any xs _ _ _ _ h1 (Nat.le_refl _) hs1).mono ?_
  rintro e w1 ⟨u1, rfl, r1, b1⟩
  go_wp2_with fail
  refine (toIntS_any ys _ _ _ _ (L.below h2 b1 (Nat.le_refl _)) b1.size hs2).mono ?_
  rintro e w2 ⟨u2, rfl, r2, b2⟩
  have b2' := below_below b1 b2
  go_wp2_with fail
  refine (specFinds_any xs ys _ _ _ _ _ _ _ (L.below r1 b2 (Nat.le_refl _)) r2).mono ?_
  rintro e w3 ⟨rfl, rfl⟩
  go_wp2_with fail
  refine (toIntS_any xs _ _ _ _ (L.below h1 b2' (Nat.le_refl _)) b2'.size hs1).mono ?_
  rintro e w4 ⟨u4, rfl, r4, b4⟩
  have b4' := below_below b2' b4
  go_wp2_with fail
  refine (toIntS_any ys _ _ _ _ (L.below h2 b4' (Nat.le_refl _)) b4'.size hs2).mono ?_
  rintro e w5 ⟨u5, rfl, r5, b5⟩
  have b5' := below_below b4' b5
  go_wp2_with fail
  refine (implFinds_any xs ys _ _ _ _ _ _ _ (L.below r4 b5 (Nat.le_refl _)) r5 b5.size (Nat.le_refl _)).mono ?_
  rintro e w6 ⟨rfl, b6⟩
  have b6' := below_below b5' b6
  go_wp2_with fail
  refine (toIntS_any xs _ _ _ _ (L.below h1 b6' (Nat.le_refl _)) b6'.size hs1).mono ?_
  rintro e w7 ⟨u7, rfl, r7, b7⟩
  have b7' := below_below b6' b7
  have r4' := L.below (L.below r4 b5 (Nat.le_refl _)) (below_below b6 b7) b5.size
  go_wp2_with fail
  refine (eqIntS_any xs xs _ _ _ _ _ _ _ r4' r7).mono ?_
  rintro e w8 ⟨rfl, n8, rfl⟩
  rw [decide_eq_true (rfl : xs = xs)]
  have b8' := below_drewN b7' n8
  go_wp2_with fail
  refine (toIntS_any ys _ _ _ _ (L.below h2 b8' (Nat.le_refl _)) b8'.size hs2).mono ?_
  rintro e w9 ⟨u9, rfl, r9, b9⟩
  have b9' := below_below b8' b9
  have r5' := L.below r5 (below_below (below_drewN (below_below b6 b7) n8) b9) (Nat.le_refl _)
  go_wp2_with fail
  refine (eqIntS_any ys ys _ _ _ _ _ _ _ r5' r9).mono ?_
  rintro e w10 ⟨rfl, n10, rfl⟩
  rw [decide_eq_true (rfl : ys = ys)]
  go_wp2_with fail
  go_ret
  exact ⟨rfl, below_drewN b9' n10⟩

theorem lifted (os : Os) (started : os.Started) (H : Type) (enc : TypeId × Value → H) :
    ReturnsInHanded {} Try.checked os 7 .any (Rows.fnExactSampleFindsSpec.pre6 enc Try.prog Try.f7 Rows.fnExactSampleFindsRow.domain false) (Rows.fnExactSampleFindsSpec.post enc Try.prog Try.f7 false true false false) := by
  refine law_lifted own started (by kernel_rfl) Try.func7 laidOut (by kernel_rfl) rfl Try.underlying4 rfl (fun ds hl => ?_)
    (ChangeSpec.witness6 (enc := enc) (C := Try.checked) false ⟨#[], #[.slice none 0 0, .slice none 0 0], []⟩ 8 (by kernel_rfl) (by kernel_rfl) (by kernel_rfl) (by kernel_rfl)) ?_
  · match ds, hl with
    | [_, _], _ => rfl
  intro W base args ds p hval0 hA hlt hsz hsh
  have hval : ∀ (j : Nat) t v, Try.f7.params[j]? = some t → args[j]? = some v → Value.okWide Try.prog W .any base t v := hval0
  rw [Try.params7] at hA hval
  obtain ⟨v0, v1, d0, d1, p0, p1, rfl, rfl, rfl, h0, h1⟩ := trodAll_two hA
  obtain ⟨a0_0, r0⟩ := open_int_slice (hval 0 30 v0 rfl rfl) h0 (by first | exact hlt | exact fun x hx => hlt x (by simp [hx]))
  obtain ⟨a1_0, r1⟩ := open_int_slice (hval 1 30 v1 rfl rfl) h1 (by first | exact hlt | exact fun x hx => hlt x (by simp [hx]))
  exact walk a0_0 r0 a1_0 r1 W

theorem proved : Rows.FnExactSampleFindsSaid :=
  OpenClaim.holds_of_wide 7 Try.f7 rfl rfl rfl rfl rfl rfl rfl ⟨rfl, rfl, rfl, rfl, rfl⟩ rfl rfl rfl rfl rfl (by kernel_rfl) Try.func7 (by kernel_rfl)
    (of_decide_eq_true (by kernel_rfl)) (by unfold Func.isWrapper; first | (rw [if_pos (by decide +kernel)]; kernel_rfl) | (rw [if_neg (by decide +kernel)]; exact ⟨rfl, rfl⟩))
    (fun os started H enc _ => lifted os started H enc)
#print axioms proved
end Go.Proofs.Ytahdphhlmblacaa.lawesf
