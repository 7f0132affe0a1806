


/- What is kept, and what goes, by the reference; what goes, by the program. -/
import Derived.Test.YtpdbohjgmghgkaaKpR
import Derived.Test.YtpdbohjgmghgkaaKpA
import Derived.Test.YtpdbohjgmghgkaaKpN
namespace Go.Proofs.Ytpdbohjgmghgkaa
open Go.RowKit

theorem in_kept {xs : List St} (h : stA xs) {span m : Int} {k : Nat} {x : St} (hx : xs[k]? = some x) {r : List Int} (hr : r = sn xs (kD xs span m)) : decide (x.s ∈ r) = decide (k ∈ kD xs span m) := by
  subst hr
  rw [← snapAt_get hx, Bool.eq_iff_iff, decide_eq_true_iff, decide_eq_true_iff]
  exact sn_mem h (fun i hi => kD_lt hi) (lt_of_some hx)
theorem in_all {xs : List St} (h : stA xs) {a b c : Int} {k : Nat} {x : St} (hx : xs[k]? = some x) : decide (x.s ∈ sn xs (kA xs a b c)) = inAll xs a b c k := by
  rw [← snapAt_get hx, Bool.eq_iff_iff, decide_eq_true_iff, sn_mem h (fun i hi => kA_lt hi) (lt_of_some hx)]
  unfold kA
  rw [List.mem_filter, List.mem_range]
  exact ⟨fun h => h.2, fun h => ⟨lt_of_some hx, h⟩⟩
def kAt (l : List St) (p : Nat → Bool) (k : Nat) : List Nat := (List.range k).filter p
theorem kAt_step {l : List St} {p : Nat → Bool} {k : Nat} {x : St} (hx : l[k]? = some x) : sn l (kAt l p (k + 1)) = sn l (kAt l p k) ++ if p k then [x.s] else [] := by
  unfold kAt sn
  rw [List.range_succ, List.filter_append, List.map_append]
  congr 1
  cases h : p k <;> simp [h, snapAt_get hx]
theorem kAt_len (l : List St) (p : Nat → Bool) (k : Nat) : (sn l (kAt l p k)).length ≤ k := by
  rw [sn_len]
  unfold kAt
  have := List.length_filter_le p (List.range k)
  rw [List.length_range] at this
  exact this
set_option maxHeartbeats 4000000 in
theorem specKeepAll_any (xs : List St) (a b c9 : Int) (h64 : In64 a ∧ In64 b ∧ In64 c9) (v : Value) (w : World) (lo hi : Nat) (hhi : hi ≤ w.heap.size) (h : RSl RSt 2 w lo hi xs [v]) (r : List Int) (hr : KAllR xs a b c9 r) :
    Calls Try.prog 47 #[v, .agg #[.int .i64 a, .int .i64 b, .int .i64 c9]] w (NewIs w r) := by
  obtain ⟨A, c, rfl⟩ := h.form
  obtain ⟨_, hc, hx⟩ := h.len_
  unfold maxLen at hx
  go_enter Try.func47, Try.ntmps47
  go_wp2_with fail
  have hbw0 : Below w.heap.size w ((w.alloc (.cells #[.int .i64 a, .int .i64 b, .int .i64 c9] 68)).alloc (.cells #[] 3)) := below_alloc' (below_alloc _ _) _
  have k0 : Blk ((w.alloc (.cells #[.int .i64 a, .int .i64 b, .int .i64 c9] 68)).alloc (.cells #[] 3)) (w.heap.size) 68 #[.int .i64 a, .int .i64 b, .int .i64 c9] := by
    have hk := blk_alloc (Blk.new w 68 #[.int .i64 a, .int .i64 b, .int .i64 c9]) (.cells #[] 3)
    exact hk
  have k1 : Blk ((w.alloc (.cells #[.int .i64 a, .int .i64 b, .int .i64 c9] 68)).alloc (.cells #[] 3)) (w.heap.size + 1) 3 #[] := by
    have hk := Blk.new (w.alloc (.cells #[.int .i64 a, .int .i64 b, .int .i64 c9] 68)) 3 #[]
    simp only [World.size_alloc] at hk
    exact hk
  have hsw0 : w.heap.size + 2 ≤ ((w.alloc (.cells #[.int .i64 a, .int .i64 b, .int .i64 c9] 68)).alloc (.cells #[] 3)).heap.size := by simp only [World.size_alloc]; omega
  generalize ((w.alloc (.cells #[.int .i64 a, .int .i64 b, .int .i64 c9] 68)).alloc (.cells #[] 3)) = w0 at *
  have ck0 := k0.cell
  have fk0 := k0.frozen
  have ck1 := k1.cell
  have fk1 := k1.frozen
  have l0 : OwnF FInt 3 w0 w.heap.size (.slice (some ⟨w.heap.size + 1, 0, none⟩) 0 0) [] := OwnF.lit0 ⟨_, rfl, by omega, k1⟩
  have h0 := sl_keep RSt.loc h hbw0 hhi
  obtain ⟨q, hq⟩ := tell (stP xs)
  refine (specStampsOk_any xs _ w0 _ _ (Nat.le_trans hhi hbw0.size) h0 q hq).mono ?_
  rintro e w1 ⟨rfl, b1⟩
  have hsz1 : w.heap.size + 1 < w1.heap.size := by have := b1.size; omega
  replace k0 := blk_keep k0 b1
  replace ck0 := k0.cell
  replace fk0 := k0.frozen
  replace l0 := l0.below b1
  replace hbw0 := below_below hbw0 b1
  cases q with
  | false =>
    have p2 : ¬ stP xs := fun h => by have := hq.2 h; cases this
    obtain rfl : r = [] := by
      rcases hr with ⟨h, _⟩ | ⟨_, h⟩
      · exact absurd h p2
      · exact h
    clear hr p2 hq
    go_wp2_with fail
    go_ret
    exact ⟨_, rfl, l0, hbw0⟩
  | true =>
    have p2 := hq.1 rfl
    obtain rfl : r = sn xs (kA xs a b c9) := by
      rcases hr with ⟨_, h⟩ | ⟨h, _⟩
      · exact h
      · exact absurd p2 h
    have H2 := Lib.hid p2; clear p2 hq hr
    go_wp2_with fail
    obtain ⟨r1, hr1⟩ : ∃ r, r = sn xs (kD xs 0 a) := ⟨_, rfl⟩
    have R1 := Lib.hid hr1; clear hr1
    refine (specKeepLast_any xs a h64.1 _ w1 _ _ (Nat.le_trans hhi hbw0.size) (sl_keep RSt.loc h hbw0 hhi) r1 (.inl ⟨H2.out, R1.out⟩)).mono ?_
    rintro e w2 ⟨v1, rfl, o1, b2⟩
    obtain ⟨A1, c1, rfl⟩ := o1.form
    replace k0 := blk_keep k0 b2
    replace ck0 := k0.cell
    replace fk0 := k0.frozen
    replace l0 := l0.below b2
    replace hbw0 := below_below hbw0 b2
    obtain ⟨r2, hr2⟩ : ∃ r, r = sn xs (kD xs 1 b) := ⟨_, rfl⟩
    have R2 := Lib.hid hr2; clear hr2
    go_wp2_with fail
    have g2 := l31Days_any xs 1 b (.inl rfl) h64.2.1 _ w2 _ _ (Nat.le_trans hhi hbw0.size) (sl_keep RSt.loc h hbw0 hhi) H2.out
    rw [← R2.out] at g2
    refine g2.mono ?_
    clear g2
    rintro e w3 ⟨v2, rfl, o2, b3⟩
    obtain ⟨A2, c2, rfl⟩ := o2.form
    replace k0 := blk_keep k0 b3
    replace ck0 := k0.cell
    replace fk0 := k0.frozen
    replace l0 := l0.below b3
    replace o1 := o1.below b3
    replace hbw0 := below_below hbw0 b3
    obtain ⟨r3, hr3⟩ : ∃ r, r = sn xs (kD xs 7 c9) := ⟨_, rfl⟩
    have R3 := Lib.hid hr3; clear hr3
    go_wp2_with fail
    have g3 := l31Days_any xs 7 c9 (.inr rfl) h64.2.2 _ w3 _ _ (Nat.le_trans hhi hbw0.size) (sl_keep RSt.loc h hbw0 hhi) H2.out
    rw [← R3.out] at g3
    refine g3.mono ?_
    clear g3
    rintro e w4 ⟨v3, rfl, o3, b4⟩
    obtain ⟨A3, c3, rfl⟩ := o3.form
    replace l0 := l0.below b4
    replace o1 := o1.below b4
    replace o2 := o2.below b4
    replace hbw0 := below_below hbw0 b4
    have z2 := b2.size
    have z3 := b3.size
    have z4 := b4.size
    clear k0 ck0 fk0 k1 ck1 fk1 b1 b2 b3 b4 h0
    have s1 := o1.sl (R1.out ▸ sn_in64 H2.out.1.in64 _) (Nat.le_refl _)
    have s2 := o2.sl (R2.out ▸ sn_in64 H2.out.1.in64 _) (Nat.le_refl _)
    have s3 := o3.sl (R3.out ▸ sn_in64 H2.out.1.in64 _) (Nat.le_refl _)
    clear o1 o2 o3
    have hl12 := H2.out.2
    go_wp2_with fail
    go_loopw [5, 9, 10] (fun oo ii _ wr => ∃ k : Nat, k ≤ xs.length ∧ ii = .int .i64 k ∧ OwnF FInt 3 wr w.heap.size oo (sn xs (kAt xs (inAll xs a b c9) k)) ∧ (∀ b, oo.ownBlock = some b → b < w1.heap.size ∨ w4.heap.size ≤ b) ∧ Chg (fun b => w.heap.size ≤ b ∧ b < w1.heap.size) w4 wr) (fun oo ii _ _ => xs.length - (intOf ii).toNat)
    case atStart => exact ⟨0, Nat.zero_le _, rfl, l0, fun b hb => by cases hb; exact .inl hsz1, Chg.refl _ _⟩
    case round =>
      clear l0
      obtain ⟨k, hk, rfl, ho, hat, hc⟩ := hrel
      have HAT := Lib.hid hat; clear hat
      have hbr : Below w.heap.size w wr := hbw0.trans (hc.below hbw0.size fun i hi hs => by omega)
      have g2 := sl_keep RSt.loc h hbr hhi
      have t1 : RSl RInt 1 wr w1.heap.size w4.heap.size r1 [.slice A1 r1.length c1] := (RSl.loc RInt.loc).chg s1 hc fun i h1 h2 => ⟨by omega, by omega⟩
      have t2 : RSl RInt 1 wr w2.heap.size w4.heap.size r2 [.slice A2 r2.length c2] := (RSl.loc RInt.loc).chg s2 hc fun i h1 h2 => ⟨by omega, by omega⟩
      have t3 : RSl RInt 1 wr w3.heap.size w4.heap.size r3 [.slice A3 r3.length c3] := (RSl.loc RInt.loc).chg s3 hc fun i h1 h2 => ⟨by omega, by omega⟩
      obtain ⟨Ao, co, rfl⟩ := ho.form
      have hlo := kAt_len xs (inAll xs a b c9) k
      by_cases hlt : k < xs.length
      · obtain ⟨x, hxk⟩ := some_of_lt hlt
        obtain ⟨b1, off, rfl, _, _, hx64, hcell, hcell1⟩ := st_at g2 hxk
        have e1 := in_kept H2.out.1 hxk R1.out
        have e2 := in_kept H2.out.1 hxk R2.out
        have e3 := in_kept H2.out.1 hxk R3.out
        have hstep := kAt_step (p := inAll xs a b c9) hxk
        have hin : inAll xs a b c9 k = (decide (x.s ∈ r1) || decide (x.s ∈ r2) || decide (x.s ∈ r3)) := by rw [e1, e2, e3]; rfl
        clear e1 e2 e3 hxk
        rw [hin] at hstep
        have HSTEP := Lib.hid hstep; clear hstep hin
        revert ho hlo HSTEP HAT
        generalize sn xs (kAt xs (inAll xs a b c9) k) = L
        intro ho HAT hlo HSTEP
        go_wp2_with fail
        refine (l3Has_any r1 x.s _ _ _ wr _ _ t1).mono ?_
        rintro e wy ⟨rfl, rfl⟩
        by_cases q1 : x.s ∈ r1
        · have u1 : decide (x.s ∈ r1) = true := decide_eq_true q1
          have hnx := HSTEP.out
          rw [if_pos (by simp [q1])] at hnx
          have HNX := Lib.hid hnx; clear hnx HSTEP
          have HLO := Lib.hid hlo
          clear q1
          try clear q2
          try clear q3
          go_wp2_with (at_builtin; refine app_flat (F := FInt) (v := .slice Ao L.length co) rfl (.tmp 52) (.tmp 54) 49 rfl elem_int x.s rfl ho rfl rfl (by have := HLO.out; omega) hbr.size ?_; intro v8 w8 o8 ch8 at8; obtain ⟨A8, c8, rfl⟩ := o8.form; simp only [List.length_append, List.length_cons, List.length_nil, Nat.zero_add] at o8 at8)
          go_roundw
          case rel => exact ⟨k + 1, by omega, by go_num, by rw [HNX.out]; exact o8, fun b hb => (at8 b hb).elim (fun h => HAT.out b h) fun h => .inr (Nat.le_trans hc.size h), hc.trans ch8 fun i hi he => by
            have h1 := HAT.out i he
            have h2 := (ho.at_ he).1
            omega⟩
          case measure => simp [intOf]; omega
        · have u1 : decide (x.s ∈ r1) = false := decide_eq_false q1
          go_wp2_with fail
          refine (l3Has_any r2 x.s _ _ _ wr _ _ t2).mono ?_
          rintro e wy ⟨rfl, rfl⟩
          by_cases q2 : x.s ∈ r2
          · have u2 : decide (x.s ∈ r2) = true := decide_eq_true q2
            have hnx := HSTEP.out
            rw [if_pos (by simp [q2])] at hnx
            have HNX := Lib.hid hnx; clear hnx HSTEP
            have HLO := Lib.hid hlo
            clear q1
            try clear q2
            try clear q3
            go_wp2_with (at_builtin; refine app_flat (F := FInt) (v := .slice Ao L.length co) rfl (.tmp 52) (.tmp 54) 49 rfl elem_int x.s rfl ho rfl rfl (by have := HLO.out; omega) hbr.size ?_; intro v8 w8 o8 ch8 at8; obtain ⟨A8, c8, rfl⟩ := o8.form; simp only [List.length_append, List.length_cons, List.length_nil, Nat.zero_add] at o8 at8)
            go_roundw
            case rel => exact ⟨k + 1, by omega, by go_num, by rw [HNX.out]; exact o8, fun b hb => (at8 b hb).elim (fun h => HAT.out b h) fun h => .inr (Nat.le_trans hc.size h), hc.trans ch8 fun i hi he => by
              have h1 := HAT.out i he
              have h2 := (ho.at_ he).1
              omega⟩
            case measure => simp [intOf]; omega
          · have u2 : decide (x.s ∈ r2) = false := decide_eq_false q2
            go_wp2_with fail
            refine (l3Has_any r3 x.s _ _ _ wr _ _ t3).mono ?_
            rintro e wy ⟨rfl, rfl⟩
            by_cases q3 : x.s ∈ r3
            · have u3 : decide (x.s ∈ r3) = true := decide_eq_true q3
              have hnx := HSTEP.out
              rw [if_pos (by simp [q3])] at hnx
              have HNX := Lib.hid hnx; clear hnx HSTEP
              have HLO := Lib.hid hlo
              clear q1
              try clear q2
              try clear q3
              go_wp2_with (at_builtin; refine app_flat (F := FInt) (v := .slice Ao L.length co) rfl (.tmp 52) (.tmp 54) 49 rfl elem_int x.s rfl ho rfl rfl (by have := HLO.out; omega) hbr.size ?_; intro v8 w8 o8 ch8 at8; obtain ⟨A8, c8, rfl⟩ := o8.form; simp only [List.length_append, List.length_cons, List.length_nil, Nat.zero_add] at o8 at8)
              go_roundw
              case rel => exact ⟨k + 1, by omega, by go_num, by rw [HNX.out]; exact o8, fun b hb => (at8 b hb).elim (fun h => HAT.out b h) fun h => .inr (Nat.le_trans hc.size h), hc.trans ch8 fun i hi he => by
                have h1 := HAT.out i he
                have h2 := (ho.at_ he).1
                omega⟩
              case measure => simp [intOf]; omega
            · have u3 : decide (x.s ∈ r3) = false := decide_eq_false q3
              have hnx := HSTEP.out
              rw [if_neg (by simp [q1, q2, q3]), List.append_nil] at hnx
              have HNX := Lib.hid hnx; clear hnx HSTEP
              clear q1 q2 q3
              go_wp2_with fail
              go_roundw
              case rel => exact ⟨k + 1, by omega, by go_num, by rw [HNX.out]; exact ho, HAT.out, hc⟩
              case measure => simp [intOf]; omega
      · obtain rfl : k = xs.length := by omega
        go_wp2_with fail
        go_ret
        exact ⟨_, rfl, ho, hbr⟩
set_option maxHeartbeats 4000000 in
theorem specKeepGone_any (xs : List St) (a b c9 : Int) (h64 : In64 a ∧ In64 b ∧ In64 c9) (v : Value) (w : World) (lo hi : Nat) (hhi : hi ≤ w.heap.size) (h : RSl RSt 2 w lo hi xs [v]) (r : List Int) (hr : KGoneR xs a b c9 r) :
    Calls Try.prog 61 #[v, .agg #[.int .i64 a, .int .i64 b, .int .i64 c9]] w (NewIs w r) := by
  obtain ⟨A, c, rfl⟩ := h.form
  obtain ⟨_, hc, hx⟩ := h.len_
  unfold maxLen at hx
  go_enter Try.func61, Try.ntmps61
  go_wp2_with fail
  have hbw0 : Below w.heap.size w ((w.alloc (.cells #[.int .i64 a, .int .i64 b, .int .i64 c9] 68)).alloc (.cells #[] 3)) := below_alloc' (below_alloc _ _) _
  have k0 : Blk ((w.alloc (.cells #[.int .i64 a, .int .i64 b, .int .i64 c9] 68)).alloc (.cells #[] 3)) (w.heap.size) 68 #[.int .i64 a, .int .i64 b, .int .i64 c9] := by
    have hk := blk_alloc (Blk.new w 68 #[.int .i64 a, .int .i64 b, .int .i64 c9]) (.cells #[] 3)
    exact hk
  have k1 : Blk ((w.alloc (.cells #[.int .i64 a, .int .i64 b, .int .i64 c9] 68)).alloc (.cells #[] 3)) (w.heap.size + 1) 3 #[] := by
    have hk := Blk.new (w.alloc (.cells #[.int .i64 a, .int .i64 b, .int .i64 c9] 68)) 3 #[]
    simp only [World.size_alloc] at hk
    exact hk
  have hsw0 : w.heap.size + 2 ≤ ((w.alloc (.cells #[.int .i64 a, .int .i64 b, .int .i64 c9] 68)).alloc (.cells #[] 3)).heap.size := by simp only [World.size_alloc]; omega
  generalize ((w.alloc (.cells #[.int .i64 a, .int .i64 b, .int .i64 c9] 68)).alloc (.cells #[] 3)) = w0 at *
  have ck0 := k0.cell
  have fk0 := k0.frozen
  have ck1 := k1.cell
  have fk1 := k1.frozen
  have l0 : OwnF FInt 3 w0 w.heap.size (.slice (some ⟨w.heap.size + 1, 0, none⟩) 0 0) [] := OwnF.lit0 ⟨_, rfl, by omega, k1⟩
  have h0 := sl_keep RSt.loc h hbw0 hhi
  obtain ⟨r1, hr1⟩ := KAllR_total xs a b c9
  have R1 := Lib.hid hr1; clear hr1
  go_wp2_with fail
  refine (specKeepAll_any xs a b c9 h64 _ w0 _ _ (Nat.le_trans hhi hbw0.size) h0 r1 R1.out).mono ?_
  rintro e w1 ⟨v1, rfl, o1, b1⟩
  obtain ⟨A1, c1, rfl⟩ := o1.form
  replace l0 := l0.below b1
  replace hbw0 := below_below hbw0 b1
  obtain ⟨q, hq⟩ := tell (stP xs)
  go_wp2_with fail
  refine (specStampsOk_any xs _ w1 _ _ (Nat.le_trans hhi hbw0.size) (sl_keep RSt.loc h hbw0 hhi) q hq).mono ?_
  rintro e w2 ⟨rfl, b2⟩
  have z1 := b1.size
  have z2 := b2.size
  replace l0 := l0.below b2
  replace o1 := o1.below b2
  replace hbw0 := below_below hbw0 b2
  clear b1 b2 h0 k0 ck0 fk0 k1 ck1 fk1
  cases q with
  | false =>
    have p2 : ¬ stP xs := fun h => by have := hq.2 h; cases this
    obtain rfl : r = [] := by
      rcases hr with ⟨h, _⟩ | ⟨_, h⟩
      · exact absurd h p2
      · exact h
    clear hr p2 hq
    go_wp2_with fail
    go_ret
    exact ⟨_, rfl, l0, hbw0⟩
  | true =>
    have p2 := hq.1 rfl
    obtain rfl : r = sn xs (kG xs a b c9) := by
      rcases hr with ⟨_, h⟩ | ⟨h, _⟩
      · exact h
      · exact absurd p2 h
    have H2 := Lib.hid p2; clear p2 hq hr
    have R2 : Hid (r1 = sn xs (kA xs a b c9)) := Lib.hid (by
      rcases R1.out with ⟨_, h⟩ | ⟨h, _⟩
      · exact h
      · exact absurd H2.out h)
    have hl12 := H2.out.2
    have s1 := o1.sl (R2.out ▸ sn_in64 H2.out.1.in64 _) (Nat.le_refl _)
    clear o1
    go_wp2_with fail
    go_loopw [5, 7] (fun oo ii wr => ∃ k : Nat, k ≤ xs.length ∧ ii = .int .i64 k ∧ OwnF FInt 3 wr w.heap.size oo (sn xs (kAt xs (fun i => !inAll xs a b c9 i) k)) ∧ (∀ b, oo.ownBlock = some b → b < w0.heap.size ∨ w2.heap.size ≤ b) ∧ Chg (fun b => w.heap.size ≤ b ∧ b < w0.heap.size) w2 wr) (fun oo ii _ => xs.length - (intOf ii).toNat)
    case atStart => exact ⟨0, Nat.zero_le _, rfl, l0, fun b hb => by cases hb; exact .inl (by show w.heap.size + 1 < _; omega), Chg.refl _ _⟩
    case round =>
      clear l0
      obtain ⟨k, hk, rfl, ho, hat, hc⟩ := hrel
      have HAT := Lib.hid hat; clear hat
      have hbr : Below w.heap.size w wr := hbw0.trans (hc.below hbw0.size fun i hi hs => by omega)
      have g2 := sl_keep RSt.loc h hbr hhi
      have t1 : RSl RInt 1 wr w0.heap.size w2.heap.size r1 [.slice A1 r1.length c1] := (RSl.loc RInt.loc).chg s1 hc fun i h1 h2 => ⟨by omega, by omega⟩
      obtain ⟨Ao, co, rfl⟩ := ho.form
      have hlo := kAt_len xs (fun i => !inAll xs a b c9 i) k
      by_cases hlt : k < xs.length
      · obtain ⟨x, hxk⟩ := some_of_lt hlt
        obtain ⟨b1, off, rfl, _, _, hx64, hcell, hcell1⟩ := st_at g2 hxk
        have hstep := kAt_step (p := fun i => !inAll xs a b c9 i) hxk
        have hin := in_all (a := a) (b := b) (c := c9) H2.out.1 hxk
        rw [← R2.out] at hin
        simp only [← hin] at hstep
        have HSTEP := Lib.hid hstep; clear hstep hin hxk
        revert ho hlo HSTEP HAT
        generalize sn xs (kAt xs (fun i => !inAll xs a b c9 i) k) = L
        intro ho HAT hlo HSTEP
        go_wp2_with fail
        refine (l3Has_any r1 x.s _ _ _ wr _ _ t1).mono ?_
        rintro e wy ⟨rfl, rfl⟩
        by_cases q1 : x.s ∈ r1
        · have u1 : decide (x.s ∈ r1) = true := decide_eq_true q1
          have hnx := HSTEP.out
          rw [if_neg (by simp [q1]), List.append_nil] at hnx
          have HNX := Lib.hid hnx; clear hnx HSTEP q1
          go_wp2_with fail
          go_roundw
          case rel => exact ⟨k + 1, by omega, by go_num, by rw [HNX.out]; exact ho, HAT.out, hc⟩
          case measure => simp [intOf]; omega
        · have u1 : decide (x.s ∈ r1) = false := decide_eq_false q1
          have hnx := HSTEP.out
          rw [if_pos (by simp [q1])] at hnx
          have HNX := Lib.hid hnx; clear hnx HSTEP
          have HLO := Lib.hid hlo
          clear q1
          try clear q2
          try clear q3
          go_wp2_with (at_builtin; refine app_flat (F := FInt) (v := .slice Ao L.length co) rfl (.tmp 30) (.tmp 36) 49 rfl elem_int x.s rfl ho rfl rfl (by have := HLO.out; omega) hbr.size ?_; intro v8 w8 o8 ch8 at8; obtain ⟨A8, c8, rfl⟩ := o8.form; simp only [List.length_append, List.length_cons, List.length_nil, Nat.zero_add] at o8 at8)
          go_roundw
          case rel => exact ⟨k + 1, by omega, by go_num, by rw [HNX.out]; exact o8, fun b hb => (at8 b hb).elim (fun h => HAT.out b h) fun h => .inr (Nat.le_trans hc.size h), hc.trans ch8 fun i hi he => by
            have h1 := HAT.out i he
            have h2 := (ho.at_ he).1
            omega⟩
          case measure => simp [intOf]; omega
      · obtain rfl : k = xs.length := by omega
        go_wp2_with fail
        go_ret
        exact ⟨_, rfl, ho, hbr⟩
theorem contains_any (ys : List Int) (n : Int) (A : Option Addr) (m c : Nat) (w : World) (lo hi : Nat) (h : RSl RInt 1 w lo hi ys [.slice A m c]) :
    Calls Try.prog 99 #[.slice A m c, .int .i64 n] w fun e w' => e = .returned (.bool (decide (n ∈ ys))) ∧ w' = w := by
  obtain ⟨rfl, hc, hx⟩ := h.len_
  rcases Nat.eq_zero_or_pos ys.length with h0 | h0
  · obtain rfl := List.eq_nil_of_length_eq_zero h0
    refine (Try.slices_Contains_int_empty A c n w).mono ?_
    rintro e w1 ⟨rfl, rfl⟩
    exact ⟨by simp, rfl⟩
  · obtain ⟨y, hy⟩ := some_of_lt h0
    obtain ⟨b, off, rfl, _, _, _, hcell⟩ := h.ints_at hy
    refine (Try.slices_Contains_int b off ys.length c ys n w (Nat.le_refl _) (by unfold maxLen at hx; omega) (fun j hj => ?_)).mono ?_
    · obtain ⟨z, hz⟩ := some_of_lt hj
      obtain ⟨b2, off2, hbo, _, _, _, hcell2⟩ := h.ints_at hz
      simp only [Option.some.injEq, Addr.mk.injEq, and_true] at hbo
      obtain ⟨rfl, rfl⟩ := hbo
      rw [hcell2, List.getD_eq_getElem?_getD, hz]; rfl
    · rintro e w1 ⟨rfl, rfl⟩
      refine ⟨?_, rfl⟩
      rw [List.take_length]
      congr 2
      rw [Bool.eq_iff_iff]; simp
set_option maxHeartbeats 4000000 in
theorem implKeepGone_any (xs : List St) (a b c9 : Int) (h64 : In64 a ∧ In64 b ∧ In64 c9) (v : Value) (w : World) (lo hi : Nat) (hhi : hi ≤ w.heap.size) (h : RSl RSt 2 w lo hi xs [v]) (r : List Int) (hr : KGoneR xs a b c9 r) :
    Calls Try.prog 60 #[v, .agg #[.int .i64 a, .int .i64 b, .int .i64 c9]] w (NewIs w r) := by
  obtain ⟨A, c, rfl⟩ := h.form
  obtain ⟨_, hc, hx⟩ := h.len_
  unfold maxLen at hx
  go_enter Try.func60, Try.ntmps60
  go_wp2_with fail
  have hbw0 : Below w.heap.size w (w.alloc (.cells #[.int .i64 a, .int .i64 b, .int .i64 c9] 68)) := below_alloc _ _
  have k0 : Blk (w.alloc (.cells #[.int .i64 a, .int .i64 b, .int .i64 c9] 68)) (w.heap.size) 68 #[.int .i64 a, .int .i64 b, .int .i64 c9] := by
    have hk := Blk.new w 68 #[.int .i64 a, .int .i64 b, .int .i64 c9]
    exact hk
  have hsw0 : w.heap.size + 1 ≤ (w.alloc (.cells #[.int .i64 a, .int .i64 b, .int .i64 c9] 68)).heap.size := by simp only [World.size_alloc]; omega
  generalize (w.alloc (.cells #[.int .i64 a, .int .i64 b, .int .i64 c9] 68)) = w0 at *
  have ck0 := k0.cell
  have fk0 := k0.frozen
  have h0 := sl_keep RSt.loc h hbw0 hhi
  obtain ⟨q, hq⟩ := tell (stP xs)
  refine (implStampsOk_any xs _ w0 _ _ (Nat.le_trans hhi hbw0.size) h0 q hq).mono ?_
  rintro e w1 ⟨rfl, b1⟩
  replace k0 := blk_keep k0 b1
  replace ck0 := k0.cell
  replace fk0 := k0.frozen
  replace hbw0 := below_below hbw0 b1
  cases q with
  | false =>
    have p2 : ¬ stP xs := fun h => by have := hq.2 h; cases this
    obtain rfl : r = [] := by
      rcases hr with ⟨h, _⟩ | ⟨_, h⟩
      · exact absurd h p2
      · exact h
    clear hr p2 hq
    go_wp2_with fail
    go_ret
    exact ⟨_, rfl, OwnF.nil _ _ _, hbw0⟩
  | true =>
    have p2 := hq.1 rfl
    obtain rfl : r = sn xs (kG xs a b c9) := by
      rcases hr with ⟨_, h⟩ | ⟨h, _⟩
      · exact h
      · exact absurd p2 h
    have H2 := Lib.hid p2; clear p2 hq hr
    obtain ⟨r1, hr1⟩ : ∃ r, r = sn xs (kA xs a b c9) := ⟨_, rfl⟩
    have R2 := Lib.hid hr1; clear hr1
    have hl12 := H2.out.2
    go_wp2_with fail
    refine (implKeepAll_any xs a b c9 h64 _ w1 _ _ (Nat.le_trans hhi hbw0.size) (sl_keep RSt.loc h hbw0 hhi) r1 (.inl ⟨H2.out, R2.out⟩)).mono ?_
    rintro e w2 ⟨v1, rfl, o1, b2⟩
    obtain ⟨A1, c1, rfl⟩ := o1.form
    replace hbw0 := below_below hbw0 b2
    have z1 := b1.size
    have z2 := b2.size
    clear b1 b2 h0 k0 ck0 fk0
    have s1 := o1.sl (R2.out ▸ sn_in64 H2.out.1.in64 _) (Nat.le_refl _)
    clear o1
    go_wp2_with fail
    go_loopw [6, 17] (fun oo ii wr => ∃ k : Nat, k ≤ xs.length ∧ ii = .int .i64 k ∧ OwnF FInt 3 wr w2.heap.size oo (sn xs (kAt xs (fun i => !inAll xs a b c9 i) k)) ∧ Below w2.heap.size w2 wr) (fun oo ii _ => xs.length - (intOf ii).toNat)
    case atStart => exact ⟨0, Nat.zero_le _, rfl, OwnF.nil _ _ _, Below.refl _ _⟩
    case round =>
      obtain ⟨k, hk, rfl, ho, hb2⟩ := hrel
      have hbr : Below w.heap.size w wr := below_below hbw0 hb2
      have g2 := sl_keep RSt.loc h hbr hhi
      have t1 := sl_keep RInt.loc s1 hb2 (Nat.le_refl _)
      obtain ⟨Ao, co, rfl⟩ := ho.form
      have hlo := kAt_len xs (fun i => !inAll xs a b c9 i) k
      by_cases hlt : k < xs.length
      · obtain ⟨x, hxk⟩ := some_of_lt hlt
        obtain ⟨b1, off, rfl, _, _, hx64, hcell, hcell1⟩ := st_at g2 hxk
        have hstep := kAt_step (p := fun i => !inAll xs a b c9 i) hxk
        have hin := in_all (a := a) (b := b) (c := c9) H2.out.1 hxk
        rw [← R2.out] at hin
        simp only [← hin] at hstep
        have HSTEP := Lib.hid hstep; clear hstep hin hxk
        revert ho hlo HSTEP
        generalize sn xs (kAt xs (fun i => !inAll xs a b c9 i) k) = L
        intro ho hlo HSTEP
        have hba := below_alloc wr (.cells #[.int .i64 x.s, .int .i64 x.d] 76)
        have n0 := new_cell wr #[.int .i64 x.s, .int .i64 x.d] 76 0 rfl
        replace ho := ho.below hba
        replace t1 := sl_keep RInt.loc t1 hba hb2.size
        replace hb2 := below_below hb2 hba
        replace hbr := below_below hbr hba
        go_wp2_with fail
        clear g2 hcell hcell1
        generalize wr.alloc (.cells #[.int .i64 x.s, .int .i64 x.d] 76) = wa at *
        refine (contains_any r1 x.s _ _ _ wa _ _ t1).mono ?_
        rintro e wy ⟨rfl, rfl⟩
        by_cases q1 : x.s ∈ r1
        · have u1 : decide (x.s ∈ r1) = true := decide_eq_true q1
          have hnx := HSTEP.out
          rw [if_neg (by simp [q1]), List.append_nil] at hnx
          have HNX := Lib.hid hnx; clear hnx HSTEP q1
          go_wp2_with fail
          go_roundw
          case rel => exact ⟨k + 1, by omega, by go_num, by rw [HNX.out]; exact ho, hb2⟩
          case measure => simp [intOf]; omega
        · have u1 : decide (x.s ∈ r1) = false := decide_eq_false q1
          have hnx := HSTEP.out
          rw [if_pos (by simp [q1])] at hnx
          have HNX := Lib.hid hnx; clear hnx HSTEP q1
          have HLO := Lib.hid hlo
          go_wp2_with (at_builtin; refine app_flat (F := FInt) (v := .slice Ao L.length co) rfl (.tmp 26) (.tmp 29) 49 rfl elem_int x.s rfl ho rfl rfl (by have := HLO.out; omega) hb2.size ?_; intro v8 w8 o8 ch8 at8; obtain ⟨A8, c8, rfl⟩ := o8.form; simp only [List.length_append, List.length_cons, List.length_nil, Nat.zero_add] at o8 at8)
          go_roundw
          case rel => exact ⟨k + 1, by omega, by go_num, by rw [HNX.out]; exact o8, hb2.trans (ch8.below hb2.size fun i hi hs => by have := (ho.at_ hs).1; omega)⟩
          case measure => simp [intOf]; omega
      · obtain rfl : k = xs.length := by omega
        go_wp2_with fail
        go_ret
        exact ⟨_, rfl, ho.base hbw0.size, hbr⟩
end Go.Proofs.Ytpdbohjgmghgkaa
