/- The law FnSampleWays: ways that find some are all but those that miss. No condition. -/
import Derived.Test.YtahdphhlmblacaaLaw
import Derived.Test.YtahdphhlmblacaaSam
import Derived.Test.YtahdphhlmblacaaDrS
import Derived.Test.YtahdphhlmblacaaInts
import Derived.Test.YtahdphhlmblacaaOwn
namespace Go.Proofs.Ytahdphhlmblacaa.lawsw
open Go.RowKit Go.ChangeShapes Go.WideShapes Go.ChangeAt

/-- The numbers of the first i bits of a set, and what is left of it. -/
def bst (set : Nat) : Nat → List Int × Nat
  | 0 => ([], set)
  | i + 1 => (if (bst set i).2 % 2 = 1 then (bst set i).1 ++ [(i : Int)] else (bst set i).1, (bst set i).2 / 2)
def goneL (g : Nat) : List Int := (List.range g).map fun (i : Nat) => (i : Int)
/-- Of the first S sets of k: how many there are, how many miss all that is gone. -/
def cnt (g k : Nat) : Nat → Nat × Nat
  | 0 => (0, 0)
  | S + 1 => if (bst S 5).1.length = k then ((cnt g k S).1 + 1, if meets (bst S 5).1 (goneL g) then (cnt g k S).2 else (cnt g k S).2 + 1) else cnt g k S
theorem cnt_all : ∀ g k : Fin 6, ((cnt g.val k.val 32).1 : Int) = sAll 5 k.val ∧ ((cnt g.val k.val 32).2 : Int) = sMiss 5 g.val k.val := by decide +kernel
theorem cnt_le (g k : Nat) : ∀ S : Nat, (cnt g k S).1 ≤ S ∧ (cnt g k S).2 ≤ S
  | 0 => ⟨Nat.le_refl _, Nat.le_refl _⟩
  | S + 1 => by
    have h := cnt_le g k S
    unfold cnt
    split
    · split <;> (simp; omega)
    · omega
theorem bst_len (set : Nat) : ∀ i : Nat, (bst set i).1.length ≤ i
  | 0 => Nat.le_refl _
  | i + 1 => by
    have h := bst_len set i
    show (if _ then _ else _ : List Int).length ≤ _
    split
    · simp; omega
    · omega
theorem bst_le (set : Nat) : ∀ i : Nat, (bst set i).2 ≤ set
  | 0 => Nat.le_refl _
  | i + 1 => Nat.le_trans (Nat.div_le_self _ _) (bst_le set i)
theorem bst_in64 (set : Nat) : ∀ i : Nat, i ≤ 5 → ∀ x ∈ (bst set i).1, In64 x
  | 0, _, x, h => by cases h
  | i + 1, hi, x, h => by
    have ih := bst_in64 set i (by omega) x
    have h' : x ∈ (if (bst set i).2 % 2 = 1 then (bst set i).1 ++ [(i : Int)] else (bst set i).1) := h
    split at h'
    · rcases List.mem_append.1 h' with h' | h'
      · exact ih h'
      · rw [List.mem_singleton.1 h']; exact ⟨by omega, by omega⟩
    · exact ih h'
theorem goneL_succ (g : Nat) : goneL (g + 1) = goneL g ++ [(g : Int)] := by unfold goneL; rw [List.range_succ, List.map_append]; rfl
theorem goneL_len (g : Nat) : (goneL g).length = g := by unfold goneL; simp
theorem goneL_in64 (g : Nat) (hg : g ≤ 6) : ∀ x ∈ goneL g, In64 x := by
  intro x hx
  obtain ⟨i, hi, rfl⟩ := List.mem_map.1 hx
  have := List.mem_range.1 hi
  exact ⟨by omega, by omega⟩
set_option maxHeartbeats 2000000 in
set_option maxRecDepth 100000 in
theorem walk (l : List Int) {v : Value} {w : World} (h : RSl RByte 1 w 0 w.heap.size l [v]) (l2 : List Int) {v2 : Value} (h2 : RSl RByte 1 w 0 w.heap.size l2 [v2]) (w' : World) (hw : w' = w := by rfl) :
    Calls Try.prog 13 #[v, v2] w' fun e w' => e = .returned (.bool true) ∧ Below w.heap.size w w' := by
  subst hw
  obtain ⟨A, c, rfl⟩ := h.form
  obtain ⟨A2, c2, rfl⟩ := h2.form
  have hlen : l.length ≤ maxLen := by obtain ⟨_, h1, h2⟩ := h.len_; omega
  have hlen2 : l2.length ≤ maxLen := by obtain ⟨_, h1, h2⟩ := h2.len_; omega
  unfold maxLen at hlen hlen2
  by_cases hbig : 1048576 < l.length
  · go_enter Try.func13, Try.ntmps13
    go_wp2_with fail
    go_ret
    exact ⟨rfl, Below.refl _ _⟩
  by_cases hbig2 : 1048576 < l2.length
  · go_enter Try.func13, Try.ntmps13
    go_wp2_with fail
    go_ret
    exact ⟨rfl, Below.refl _ _⟩
  go_enter Try.func13, Try.ntmps13
  obtain ⟨g, hg⟩ : ∃ g : Nat, (l2.length : Int) % 6 = (g : Int) := ⟨l2.length % 6, rfl⟩
  obtain ⟨k, hkk⟩ : ∃ k : Nat, (l2.length : Int) / 6 % 6 = (k : Int) := ⟨l2.length / 6 % 6, rfl⟩
  have hg6 : g < 6 := by omega
  have hk6 : k < 6 := by omega
  go_wp2_with fail
  refine (drawMiss_any l A _ c _ h).mono ?_
  rintro e w1 ⟨m, lo, d, rfl, ⟨hm1, hm2⟩, ⟨hl1, hl2⟩, ⟨hd1, hd2⟩, hb1⟩
  go_wp2_with fail
  refine (implMiss_any _ _ _ _).mono ?_
  rintro e w2 ⟨rfl, hb2⟩
  go_wp2_with fail
  refine (specMiss_any _ _ _ _).mono ?_
  rintro e w3 ⟨rfl, rfl⟩
  have hb2' := below_below hb1 hb2
  clear hb1 hb2
  go_wp2_with fail
  go_loopw [9, 10] (fun v i wr => ∃ j : Nat, j ≤ g ∧ i = .int .i64 j ∧ OwnI wr w2.heap.size v (goneL j) ∧ Below w2.heap.size w2 wr) (fun _ i _ => g - (intOf i).toNat)
  case atStart => exact ⟨0, Nat.zero_le _, rfl, OwnI.lit0 _ (Nat.le_refl _), (Below.refl _ _).alloc (Nat.le_refl _) _⟩
  case round =>
    obtain ⟨j, hj, rfl, hown, hb⟩ := hrel
    have hgl := Lib.hid (goneL_len j)
    by_cases hlt : j < g
    · go_wp2_with (at_builtin; refine app_int rfl (.tmp 50) (.tmp 52) rfl (j : Int) rfl hown rfl (by rw [hgl.out]; omega) hb.size ?_; intro v2 w4 hown2 hc2 ha2)
      go_roundw
      case rel => first | exact ⟨j + 1, by omega, by go_num, by rw [goneL_succ]; exact hown2, hb.trans (own_below hown hc2 hb.size)⟩ | ((repeat apply Exists.intro); refine ⟨?_, rfl⟩; exact ⟨j + 1, by omega, by go_num, by rw [goneL_succ]; exact hown2, hb.trans (own_below hown hc2 hb.size)⟩)
      case measure => simp [intOf]; omega
    · obtain rfl : j = g := by omega
      have rg := hown.sl (goneL_in64 j (by omega)) (Nat.le_refl _)
      have hbg := below_below hb2' hb
      clear hown hb hb2'
      obtain ⟨wg, rfl⟩ : ∃ wg : World, wg = wr := ⟨_, rfl⟩
      obtain ⟨Ag, cg, rfl⟩ := rg.form
      have hsz := hbg.size
      have hga := Lib.hid (cnt_all ⟨j, hg6⟩ ⟨k, hk6⟩)
      go_wp2_with fail
      go_loopw [12, 13, 14] (fun mi al se wo => ∃ S : Nat, S ≤ 32 ∧ se = .int .i64 S ∧ al = .int .i64 (cnt j k S).1 ∧ mi = .int .i64 (cnt j k S).2 ∧ Below wg.heap.size wg wo) (fun _ _ se _ => 32 - (intOf se).toNat)
      case atStart => exact ⟨0, by omega, rfl, rfl, rfl, Below.refl _ _⟩
      case round =>
        obtain ⟨S, hS, rfl, rfl, rfl, hbo⟩ := hrel
        obtain ⟨wo, rfl⟩ : ∃ wo : World, wo = wr := ⟨_, rfl⟩
        obtain ⟨cl1, cl2⟩ := cnt_le j k S
        by_cases hlt2 : S < 32
        · have t0 : decide ((S : Int) < 32) = true := decide_eq_true (by omega)
          go_wp2_with fail
          go_loopw [15, 16, 17] (fun v n i wi => ∃ t : Nat, t ≤ 5 ∧ i = .int .i64 t ∧ n = .int .i64 (bst S t).2 ∧ OwnI wi wo.heap.size v (bst S t).1 ∧ Below wo.heap.size wo wi) (fun _ _ i _ => 5 - (intOf i).toNat)
          case atStart => exact ⟨0, by omega, rfl, rfl, OwnI.lit0 _ (Nat.le_refl _), (Below.refl _ _).alloc (Nat.le_refl _) _⟩
          case round =>
            obtain ⟨t, ht, rfl, rfl, hown, hb⟩ := hrel
            have hbl := bst_len S t
            have hbn := bst_le S t
            by_cases hlt3 : t < 5
            · have hst : bst S (t + 1) = (if (bst S t).2 % 2 = 1 then (bst S t).1 ++ [(t : Int)] else (bst S t).1, (bst S t).2 / 2) := rfl
              have HS := Lib.hid hst
              clear hst
              by_cases hodd : (bst S t).2 % 2 = 1
              · have t1 : (((bst S t).2 : Int) % 2 == 1) = true := beq_iff_eq.2 (by omega)
                have HO := Lib.hid hodd
                clear hodd
                go_wp2_with (at_builtin; refine app_int rfl (.tmp 71) (.tmp 73) rfl (t : Int) rfl hown rfl (by omega) hb.size ?_; intro v2 w4 hown2 hc2 ha2)
                go_roundw
                case rel => first | exact ⟨t + 1, by omega, by go_num, by rw [HS.out]; rfl, by rw [HS.out, if_pos HO.out]; exact hown2, hb.trans (own_below hown hc2 hb.size)⟩ | ((repeat apply Exists.intro); refine ⟨?_, rfl⟩; exact ⟨t + 1, by omega, by go_num, by rw [HS.out]; rfl, by rw [HS.out, if_pos HO.out]; exact hown2, hb.trans (own_below hown hc2 hb.size)⟩)
                case measure => simp [intOf]; omega
              · have t1 : (((bst S t).2 : Int) % 2 == 1) = false := beq_eq_false_iff_ne.2 (by omega)
                have HO := Lib.hid hodd
                clear hodd
                go_wp2_with fail
                go_roundw
                case rel => first | exact ⟨t + 1, by omega, by go_num, by rw [HS.out]; rfl, by rw [HS.out, if_neg HO.out]; exact hown, hb⟩ | ((repeat apply Exists.intro); refine ⟨?_, rfl⟩; exact ⟨t + 1, by omega, by go_num, by rw [HS.out]; rfl, by rw [HS.out, if_neg HO.out]; exact hown, hb⟩)
                case measure => simp [intOf]; omega
            · obtain rfl : t = 5 := by omega
              have rl := hown.sl (bst_in64 S 5 (Nat.le_refl _)) (Nat.le_refl _)
              obtain ⟨Al, cl, rfl⟩ := rl.form
              have hcs : cnt j k (S + 1) = if (bst S 5).1.length = k then ((cnt j k S).1 + 1, if meets (bst S 5).1 (goneL j) then (cnt j k S).2 else (cnt j k S).2 + 1) else cnt j k S := rfl
              have HC := Lib.hid hcs
              clear hcs
              have hbw := hb.mono hbo.size
              have rg' := (RSl.loc (sz := 1) RInt.loc).below rg (hbo.trans hbw) (Nat.le_refl _)
              by_cases hlk : (bst S 5).1.length = k
              · have t1 : ((((bst S 5).1.length : Nat) : Int) != k) = false := by rw [bne_eq_false_iff_eq]; omega
                have HL := Lib.hid hlk
                clear hlk
                go_wp2_with fail
                refine (implFinds_any (bst S 5).1 (goneL j) _ _ _ _ _ _ _ rl rg' (Nat.le_refl _) (Nat.le_trans hbo.size hb.size)).mono ?_
                rintro e w5 ⟨rfl, hb5⟩
                have hb5' := (hbo.trans hbw).trans (hb5.mono (Nat.le_trans hbo.size hb.size))
                cases hme : meets (bst S 5).1 (goneL j)
                · have HM := Lib.hid hme
                  clear hme
                  go_wp2_with fail
                  go_roundw
                  case rel => first | exact ⟨S + 1, by omega, by go_num, by rw [HC.out, if_pos HL.out]; go_num, by rw [HC.out, if_pos HL.out, HM.out]; go_num, hb5'⟩ | ((repeat apply Exists.intro); refine ⟨?_, rfl⟩; exact ⟨S + 1, by omega, by go_num, by rw [HC.out, if_pos HL.out]; go_num, by rw [HC.out, if_pos HL.out, HM.out]; go_num, hb5'⟩)
                  case measure => simp [intOf]; omega
                · have HM := Lib.hid hme
                  clear hme
                  go_wp2_with fail
                  go_roundw
                  case rel => first | exact ⟨S + 1, by omega, by go_num, by rw [HC.out, if_pos HL.out]; go_num, by rw [HC.out, if_pos HL.out, HM.out]; rfl, hb5'⟩ | ((repeat apply Exists.intro); refine ⟨?_, rfl⟩; exact ⟨S + 1, by omega, by go_num, by rw [HC.out, if_pos HL.out]; go_num, by rw [HC.out, if_pos HL.out, HM.out]; rfl, hb5'⟩)
                  case measure => simp [intOf]; omega
              · have t1 : ((((bst S 5).1.length : Nat) : Int) != k) = true := by rw [bne_iff_ne]; omega
                have HL := Lib.hid hlk
                clear hlk
                go_wp2_with fail
                go_roundw
                case rel => first | exact ⟨S + 1, by omega, by go_num, by rw [HC.out, if_neg HL.out], by rw [HC.out, if_neg HL.out], hbo.trans hbw⟩ | ((repeat apply Exists.intro); refine ⟨?_, rfl⟩; exact ⟨S + 1, by omega, by go_num, by rw [HC.out, if_neg HL.out], by rw [HC.out, if_neg HL.out], hbo.trans hbw⟩)
                case measure => simp [intOf]; omega
        · obtain rfl : S = 32 := by omega
          have e1 : (((cnt j k 32).1 : Int) == sAll 5 k) = true := beq_iff_eq.2 hga.out.1
          have e2 : (((cnt j k 32).2 : Int) == sMiss 5 j k) = true := beq_iff_eq.2 hga.out.2
          have hgl2 := goneL_len j
          go_wp2_with fail
          refine (implAll_any _ _ _).mono ?_
          rintro e w5 ⟨rfl, hb5⟩
          go_wp2_with fail
          refine (implMiss_any _ _ _ _).mono ?_
          rintro e w6 ⟨rfl, hb6⟩
          go_wp2_with fail
          go_ret
          exact ⟨rfl, below_below (below_below (hbg.trans (hbo.mono hsz)) hb5) hb6⟩

theorem lifted (os : Os) (started : os.Started) (H : Type) (enc : TypeId × Value → H) :
    ReturnsInHanded {} Try.checked os 13 .any (Rows.fnSampleWaysSpec.pre6 enc Try.prog Try.f13 Rows.fnSampleWaysRow.domain false) (Rows.fnSampleWaysSpec.post enc Try.prog Try.f13 false true false false) := by
  refine law_lifted own started (by kernel_rfl) Try.func13 laidOut (by kernel_rfl) rfl Try.underlying4 rfl (fun ds hl => ?_)
    (ChangeSpec.witness6 (enc := enc) (C := Try.checked) false ⟨#[], #[.slice none 0 0, .slice none 0 0], []⟩ 8 (by kernel_rfl) (by kernel_rfl) (by kernel_rfl) (by kernel_rfl)) ?_
  · match ds, hl with
    | [_, _], _ => rfl
  intro W base args ds p hval0 hA hlt hsz hsh
  have hval : ∀ (j : Nat) t v, Try.f13.params[j]? = some t → args[j]? = some v → Value.okWide Try.prog W .any base t v := hval0
  rw [Try.params13] at hA hval
  obtain ⟨v0, v1, d0, d1, p0, p1, rfl, rfl, rfl, h0, h1⟩ := trodAll_two hA
  obtain ⟨a0_0, r0⟩ := open_byte_slice (hval 0 26 v0 rfl rfl) h0 (by first | exact hlt | exact fun x hx => hlt x (by simp [hx]))
  obtain ⟨a1_0, r1⟩ := open_byte_slice (hval 1 26 v1 rfl rfl) h1 (by first | exact hlt | exact fun x hx => hlt x (by simp [hx]))
  exact walk a0_0 r0 a1_0 r1 W

theorem proved : Rows.FnSampleWaysSaid :=
  OpenClaim.holds_of_wide 13 Try.f13 rfl rfl rfl rfl rfl rfl rfl ⟨rfl, rfl, rfl, rfl, rfl⟩ rfl rfl rfl rfl rfl (by kernel_rfl) Try.func13 (by kernel_rfl)
    (of_decide_eq_true (by kernel_rfl)) (by unfold Func.isWrapper; first | (rw [if_pos (by decide +kernel)]; kernel_rfl) | (rw [if_neg (by decide +kernel)]; exact ⟨rfl, rfl⟩))
    (fun os started H enc _ => lifted os started H enc)
#print axioms proved
end Go.Proofs.Ytahdphhlmblacaa.lawsw
