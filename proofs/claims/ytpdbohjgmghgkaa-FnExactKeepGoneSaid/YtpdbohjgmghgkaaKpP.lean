


/- The last snapshot of each span, by the program. -/
import Derived.Test.YtpdbohjgmghgkaaKp
import Derived.Test.YtpdbohjgmghgkaaShelf
namespace Go.Proofs.Ytpdbohjgmghgkaa
open Go.RowKit

def NewIs (w : World) (ys : List Int) (e : Ending) (w' : World) : Prop := ∃ v, e = .returned v ∧ OwnF FInt 3 w' w.heap.size v ys ∧ Below w.heap.size w w'
theorem sl_drop {w : World} {lo hi : Nat} {ys : List Int} {A : Option Addr} {n c : Nat} (h : RSl RInt 1 w lo hi ys [.slice A n c]) {q : Nat} (hq : q ≤ ys.length) : RSl RInt 1 w lo hi (ys.drop q) [.slice (A.map fun x => x.add q) (ys.length - q) (c - q)] := by
  obtain ⟨A', c', e, hc, hm, hx⟩ := h
  simp only [List.cons.injEq, Value.slice.injEq, and_true] at e
  obtain ⟨rfl, _, rfl⟩ := e
  refine ⟨_, c - q, by rw [List.length_drop], by rw [List.length_drop]; omega, by omega, fun hp => ?_⟩
  rw [List.length_drop] at hp
  obtain ⟨b, off, rfl, h1, h2, hat⟩ := hx (by omega)
  refine ⟨b, off + q, by simp [Addr.add], h1, h2, fun i x hi => ?_⟩
  rw [List.getElem?_drop] at hi
  obtain ⟨es, h3, h4, h5⟩ := hat _ _ hi
  refine ⟨es, h3, h4, fun j u hj => ?_⟩
  have := h5 j u hj
  rw [← this]
  congr 2
  omega
theorem sl_none {w : World} {lo hi : Nat} (A : Option Addr) {c : Nat} (hc : c ≤ maxLen) : RSl RInt 1 w lo hi [] [.slice A 0 c] := ⟨A, c, rfl, Nat.zero_le _, hc, fun h => absurd h (by simp)⟩
theorem flats_ints : ∀ ys : List Int, flats FInt ys = ys.map (Value.int .i64)
  | [] => rfl
  | y :: ys => by show [Value.int .i64 y] ++ flats FInt ys = _; rw [flats_ints ys]; rfl
theorem clone_any (ys : List Int) (A : Option Addr) (n c : Nat) (w : World) (lo hi : Nat) (h : RSl RInt 1 w lo hi ys [.slice A n c]) (hl : ys.length ≤ 12) :
    Calls Try.prog 114 #[.slice A n c] w (NewIs w ys) := by
  have hn : n = ys.length := by
    obtain ⟨A', c', e, _⟩ := h
    simp only [List.cons.injEq, Value.slice.injEq, and_true] at e
    exact e.2.1
  subst hn
  have HN := h
  obtain ⟨A', c', e, hc, hm, hx⟩ := h
  simp only [List.cons.injEq, Value.slice.injEq, and_true] at e
  obtain ⟨rfl, _, rfl⟩ := e
  rcases Nat.eq_zero_or_pos ys.length with h0 | h0
  · obtain rfl := List.eq_nil_of_length_eq_zero h0
    cases A with
    | none =>
      refine (Try.slices_Clone_int_nil _ _ w).mono ?_
      rintro e w1 ⟨rfl, rfl⟩
      exact ⟨_, rfl, OwnF.nil _ _ _, Below.refl _ _⟩
    | some a =>
      refine (Try.slices_Clone_int_zero a _ w).mono ?_
      rintro e w1 ⟨v', rfl, ho, _, hb⟩
      exact ⟨_, rfl, ho, hb⟩
  · obtain ⟨b, off, rfl, h1, h2, hat⟩ := hx h0
    refine (Try.slices_Clone_int b off ys.length c ys w (Nat.le_refl _) (by omega) (fun j hj => ?_)).mono ?_
    · obtain ⟨es, h3, ⟨rfl, _⟩, h5⟩ := hat j _ (List.getElem?_eq_getElem hj)
      have := h5 0 _ rfl
      rw [Nat.mul_one, Nat.add_zero] at this
      rw [this, List.getD_eq_getElem?_getD, List.getElem?_eq_getElem hj]
      rfl
    · rintro e w1 ⟨v', rfl, ho, _, hb⟩
      rw [List.take_length] at ho
      refine ⟨_, rfl, ?_, hb⟩
      unfold OwnF
      rw [flats_ints]
      exact ho
theorem endS_last {xs : List St} {span : Int} {k : Nat} (h : k + 1 = xs.length) : endS xs span k = true := by simp [endS, h]
theorem endS_zero {xs : List St} {k : Nat} : endS xs 0 k = true := by simp [endS]
theorem endS_mid {xs : List St} {span : Int} {k : Nat} {x y : St} (h0 : ¬ span = 0) (h : ¬ k + 1 = xs.length) (hx : xs[k]? = some x) (hy : xs[k + 1]? = some y) : endS xs span k = (y.d.tdiv span != x.d.tdiv span) := by
  unfold endS
  rw [dayAt_get hx, dayAt_get hy, decide_eq_false h0, decide_eq_false h]
  simp only [Bool.false_or, bne]
  by_cases h : y.d.tdiv span = x.d.tdiv span
  · simp [h]
  · simp [h]
theorem sn_snoc {xs : List St} {span : Int} {k : Nat} {x : St} (hx : xs[k]? = some x) (he : endS xs span k = true) : sn xs (ids xs span (k + 1)) = sn xs (ids xs span k) ++ [x.s] := by
  rw [ids_snoc, if_pos he]; unfold sn; rw [List.map_append]; simp [snapAt_get hx]
theorem sn_skip {xs : List St} {span : Int} {k : Nat} (he : endS xs span k = false) : sn xs (ids xs span (k + 1)) = sn xs (ids xs span k) := by
  rw [ids_snoc, if_neg (by rw [he]; simp)]; simp
set_option maxHeartbeats 4000000 in
theorem periods_any (xs : List St) (span : Int) (h7 : span = 0 ∨ span = 1 ∨ span = 7) (v : Value) (w : World) (lo hi : Nat) (hhi : hi ≤ w.heap.size) (h : RSl RSt 2 w lo hi xs [v]) (hst : stP xs) :
    Calls Try.prog 96 #[v, .int .i64 span] w (NewIs w (sn xs (ids xs span xs.length))) := by
  obtain ⟨A, c, rfl⟩ := h.form
  obtain ⟨_, hc, hx⟩ := h.len_
  unfold maxLen at hx
  have hl12 := hst.2
  have HS := Lib.hid hst; clear hst
  go_enter Try.func96, Try.ntmps96
  go_wp2_with fail
  go_loopw [5, 10] (fun oo ii wr => ∃ k : Nat, k ≤ xs.length ∧ ii = .int .i64 k ∧ OwnF FInt 3 wr w.heap.size oo (sn xs (ids xs span k)) ∧ Below w.heap.size w wr) (fun oo ii _ => xs.length - (intOf ii).toNat)
  case atStart => exact ⟨0, Nat.zero_le _, rfl, OwnF.nil _ _ _, Below.refl _ _⟩
  case round =>
    obtain ⟨k, hk, rfl, ho, hbr⟩ := hrel
    have g2 := sl_keep RSt.loc h hbr hhi
    obtain ⟨A2, c2, rfl⟩ := ho.form
    have hlo : (sn xs (ids xs span k)).length ≤ 12 := by
      unfold sn
      rw [List.length_map]
      have := ids_len xs span k
      omega
    by_cases hlt : k < xs.length
    · obtain ⟨x, hxk⟩ := some_of_lt hlt
      obtain ⟨b1, off, rfl, _, _, h64, hcell, hcell1⟩ := st_at g2 hxk
      have HX := Lib.hid hxk; clear hxk
      have hba := below_alloc wr (.cells #[.int .i64 x.s, .int .i64 x.d] 76)
      have n0 := new_cell wr #[.int .i64 x.s, .int .i64 x.d] 76 0 rfl
      have n1 := new_cell wr #[.int .i64 x.s, .int .i64 x.d] 76 1 rfl
      have hbz := hbr.trans (hba.mono hbr.size)
      replace ho := ho.below hba
      have HLO := Lib.hid hlo
      by_cases hlast : k + 1 = xs.length
      · have u1 : ((k : Int) == (xs.length : Int) - 1) = true := beq_iff_eq.2 (by omega)
        rcases h7 with rfl | rfl | rfl
        · have hnx := sn_snoc (span := 0) HX.out (endS_last hlast)
          have HNX := Lib.hid hnx; clear hnx
          go_wp2_with fail
          generalize wr.alloc (.cells #[.int .i64 x.s, .int .i64 x.d] 76) = wa at *
          go_quiet (fail)
          have c0 : (wa.drewN nq).cell? ⟨wr.heap.size, 0, none⟩ = _ := n0
          have hbq := below_drewN hbz nq
          have hoq := ho.drewN nq
          revert hoq hlo
          generalize (sn xs (ids xs 0 k)).length = nL
          intro hlo hoq
          have hoq' : OwnF FInt 3 (wa.drewN nq) w.heap.size (.slice A2 nL c2) (sn xs (ids xs 0 k)) := hoq
          go_wp2_with (at_builtin; refine app_flat (w := wa.drewN nq) (F := FInt) (v := .slice A2 nL c2) rfl (.tmp 39) (.tmp 42) 49 rfl elem_int x.s rfl hoq' rfl rfl (by have := HLO.out; omega) hbq.size ?_; intro v8 w8 o8 ch8 at8; obtain ⟨A8, c8, rfl⟩ := o8.form; simp only [List.length_append, List.length_cons, List.length_nil, Nat.zero_add] at o8; rw [← HNX.out] at o8)
          have hb8 : Below w.heap.size w w8 := hbq.trans (ch8.below hbq.size fun i hi hs => by have := (hoq.at_ hs).1; omega)
          go_roundw
          case rel => exact ⟨k + 1, by omega, by go_num, o8, hb8⟩
          case measure => simp [intOf]; omega
        · have hnx := sn_snoc (span := 1) HX.out (endS_last hlast)
          have HNX := Lib.hid hnx; clear hnx
          go_wp2_with fail
          generalize wr.alloc (.cells #[.int .i64 x.s, .int .i64 x.d] 76) = wa at *
          go_quiet (fail)
          have c0 : (wa.drewN nq).cell? ⟨wr.heap.size, 0, none⟩ = _ := n0
          have hbq := below_drewN hbz nq
          have hoq := ho.drewN nq
          revert hoq hlo
          generalize (sn xs (ids xs 1 k)).length = nL
          intro hlo hoq
          have hoq' : OwnF FInt 3 (wa.drewN nq) w.heap.size (.slice A2 nL c2) (sn xs (ids xs 1 k)) := hoq
          go_wp2_with (at_builtin; refine app_flat (w := wa.drewN nq) (F := FInt) (v := .slice A2 nL c2) rfl (.tmp 39) (.tmp 42) 49 rfl elem_int x.s rfl hoq' rfl rfl (by have := HLO.out; omega) hbq.size ?_; intro v8 w8 o8 ch8 at8; obtain ⟨A8, c8, rfl⟩ := o8.form; simp only [List.length_append, List.length_cons, List.length_nil, Nat.zero_add] at o8; rw [← HNX.out] at o8)
          have hb8 : Below w.heap.size w w8 := hbq.trans (ch8.below hbq.size fun i hi hs => by have := (hoq.at_ hs).1; omega)
          go_roundw
          case rel => exact ⟨k + 1, by omega, by go_num, o8, hb8⟩
          case measure => simp [intOf]; omega
        · have hnx := sn_snoc (span := 7) HX.out (endS_last hlast)
          have HNX := Lib.hid hnx; clear hnx
          go_wp2_with fail
          generalize wr.alloc (.cells #[.int .i64 x.s, .int .i64 x.d] 76) = wa at *
          go_quiet (fail)
          have c0 : (wa.drewN nq).cell? ⟨wr.heap.size, 0, none⟩ = _ := n0
          have hbq := below_drewN hbz nq
          have hoq := ho.drewN nq
          revert hoq hlo
          generalize (sn xs (ids xs 7 k)).length = nL
          intro hlo hoq
          have hoq' : OwnF FInt 3 (wa.drewN nq) w.heap.size (.slice A2 nL c2) (sn xs (ids xs 7 k)) := hoq
          go_wp2_with (at_builtin; refine app_flat (w := wa.drewN nq) (F := FInt) (v := .slice A2 nL c2) rfl (.tmp 39) (.tmp 42) 49 rfl elem_int x.s rfl hoq' rfl rfl (by have := HLO.out; omega) hbq.size ?_; intro v8 w8 o8 ch8 at8; obtain ⟨A8, c8, rfl⟩ := o8.form; simp only [List.length_append, List.length_cons, List.length_nil, Nat.zero_add] at o8; rw [← HNX.out] at o8)
          have hb8 : Below w.heap.size w w8 := hbq.trans (ch8.below hbq.size fun i hi hs => by have := (hoq.at_ hs).1; omega)
          go_roundw
          case rel => exact ⟨k + 1, by omega, by go_num, o8, hb8⟩
          case measure => simp [intOf]; omega
      · have u1 : ((k : Int) == (xs.length : Int) - 1) = false := beq_eq_false_iff_ne.2 (by omega)
        obtain ⟨y, hyk⟩ := some_of_lt (l := xs) (k := k + 1) (by omega)
        obtain ⟨b2, off2, hbo, _, _, _, hcell3, hcell4⟩ := st_at g2 hyk
        simp only [Option.some.injEq, Addr.mk.injEq, and_true] at hbo
        obtain ⟨rfl, rfl⟩ := hbo
        have HY := Lib.hid hyk; clear hyk
        have m3 := cell_keep hba hcell3
        have m4 := cell_keep hba hcell4
        have hk1 : k + 1 < xs.length := by omega
        have dx := (HS.out.1.1 x (List.mem_of_getElem? HX.out)).2
        have dy := (HS.out.1.1 y (List.mem_of_getElem? HY.out)).2
        have q7 : ∀ d : Int, 0 ≤ d ∧ d ≤ 99 → wrap64 (d.tdiv 7) = d.tdiv 7 := fun d hd => by
          rw [Int.tdiv_eq_ediv_of_nonneg hd.1]; unfold wrap64; omega
        have qx := q7 _ dx
        have qy := q7 _ dy
        have ex : wrap64 x.d = x.d := by unfold wrap64; omega
        have ey : wrap64 y.d = y.d := by unfold wrap64; omega
        clear q7
        rcases h7 with rfl | rfl | rfl
        · have hnx := sn_snoc (span := 0) HX.out endS_zero
          have HNX := Lib.hid hnx; clear hnx
          go_wp2_with fail
          generalize wr.alloc (.cells #[.int .i64 x.s, .int .i64 x.d] 76) = wa at *
          go_quiet (fail)
          have c0 : (wa.drewN nq).cell? ⟨wr.heap.size, 0, none⟩ = _ := n0
          have hbq := below_drewN hbz nq
          have hoq := ho.drewN nq
          revert hoq hlo
          generalize (sn xs (ids xs 0 k)).length = nL
          intro hlo hoq
          have hoq' : OwnF FInt 3 (wa.drewN nq) w.heap.size (.slice A2 nL c2) (sn xs (ids xs 0 k)) := hoq
          go_wp2_with (at_builtin; refine app_flat (w := wa.drewN nq) (F := FInt) (v := .slice A2 nL c2) rfl (.tmp 39) (.tmp 42) 49 rfl elem_int x.s rfl hoq' rfl rfl (by have := HLO.out; omega) hbq.size ?_; intro v8 w8 o8 ch8 at8; obtain ⟨A8, c8, rfl⟩ := o8.form; simp only [List.length_append, List.length_cons, List.length_nil, Nat.zero_add] at o8; rw [← HNX.out] at o8)
          have hb8 : Below w.heap.size w w8 := hbq.trans (ch8.below hbq.size fun i hi hs => by have := (hoq.at_ hs).1; omega)
          go_roundw
          case rel => exact ⟨k + 1, by omega, by go_num, o8, hb8⟩
          case measure => simp [intOf]; omega
        · have he := endS_mid (span := 1) (by omega) hlast HX.out HY.out
          rw [Int.tdiv_one, Int.tdiv_one] at he
          obtain ⟨q, hq⟩ : ∃ q : Bool, q = (y.d != x.d) := ⟨_, rfl⟩
          rw [← hq] at he
          have HE := Lib.hid he; clear he
          cases q
          · replace hq := hq.symm
            have hnx := sn_skip (xs := xs) (span := 1) (k := k) HE.out
            have HNX := Lib.hid hnx; clear hnx
            go_wp2_with fail
            generalize wr.alloc (.cells #[.int .i64 x.s, .int .i64 x.d] 76) = wa at *
            go_quiet (fail)
            have hbq := below_drewN hbz nq
            have hoq := ho.drewN nq
            go_wp2_with fail
            go_roundw
            case rel => exact ⟨k + 1, by omega, by go_num, by rw [HNX.out]; exact hoq, hbq⟩
            case measure => simp [intOf]; omega
          · replace hq := hq.symm
            have hnx := sn_snoc (span := 1) HX.out HE.out
            have HNX := Lib.hid hnx; clear hnx
            go_wp2_with fail
            generalize wr.alloc (.cells #[.int .i64 x.s, .int .i64 x.d] 76) = wa at *
            go_quiet (fail)
            have c0 : (wa.drewN nq).cell? ⟨wr.heap.size, 0, none⟩ = _ := n0
            have hbq := below_drewN hbz nq
            have hoq := ho.drewN nq
            revert hoq hlo
            generalize (sn xs (ids xs 1 k)).length = nL
            intro hlo hoq
            have hoq' : OwnF FInt 3 (wa.drewN nq) w.heap.size (.slice A2 nL c2) (sn xs (ids xs 1 k)) := hoq
            go_wp2_with (at_builtin; refine app_flat (w := wa.drewN nq) (F := FInt) (v := .slice A2 nL c2) rfl (.tmp 39) (.tmp 42) 49 rfl elem_int x.s rfl hoq' rfl rfl (by have := HLO.out; omega) hbq.size ?_; intro v8 w8 o8 ch8 at8; obtain ⟨A8, c8, rfl⟩ := o8.form; simp only [List.length_append, List.length_cons, List.length_nil, Nat.zero_add] at o8; rw [← HNX.out] at o8)
            have hb8 : Below w.heap.size w w8 := hbq.trans (ch8.below hbq.size fun i hi hs => by have := (hoq.at_ hs).1; omega)
            go_roundw
            case rel => exact ⟨k + 1, by omega, by go_num, o8, hb8⟩
            case measure => simp [intOf]; omega
        · have he := endS_mid (span := 7) (by omega) hlast HX.out HY.out
          rw [Int.tdiv_eq_ediv_of_nonneg dy.1, Int.tdiv_eq_ediv_of_nonneg dx.1] at he
          obtain ⟨q, hq⟩ : ∃ q : Bool, q = (y.d / 7 != x.d / 7) := ⟨_, rfl⟩
          rw [← hq] at he
          have HE := Lib.hid he; clear he
          cases q
          · replace hq := hq.symm
            have hnx := sn_skip (xs := xs) (span := 7) (k := k) HE.out
            have HNX := Lib.hid hnx; clear hnx
            go_wp2_with fail
            generalize wr.alloc (.cells #[.int .i64 x.s, .int .i64 x.d] 76) = wa at *
            go_quiet (fail)
            have hbq := below_drewN hbz nq
            have hoq := ho.drewN nq
            go_wp2_with fail
            go_roundw
            case rel => exact ⟨k + 1, by omega, by go_num, by rw [HNX.out]; exact hoq, hbq⟩
            case measure => simp [intOf]; omega
          · replace hq := hq.symm
            have hnx := sn_snoc (span := 7) HX.out HE.out
            have HNX := Lib.hid hnx; clear hnx
            go_wp2_with fail
            generalize wr.alloc (.cells #[.int .i64 x.s, .int .i64 x.d] 76) = wa at *
            go_quiet (fail)
            have c0 : (wa.drewN nq).cell? ⟨wr.heap.size, 0, none⟩ = _ := n0
            have hbq := below_drewN hbz nq
            have hoq := ho.drewN nq
            revert hoq hlo
            generalize (sn xs (ids xs 7 k)).length = nL
            intro hlo hoq
            have hoq' : OwnF FInt 3 (wa.drewN nq) w.heap.size (.slice A2 nL c2) (sn xs (ids xs 7 k)) := hoq
            go_wp2_with (at_builtin; refine app_flat (w := wa.drewN nq) (F := FInt) (v := .slice A2 nL c2) rfl (.tmp 39) (.tmp 42) 49 rfl elem_int x.s rfl hoq' rfl rfl (by have := HLO.out; omega) hbq.size ?_; intro v8 w8 o8 ch8 at8; obtain ⟨A8, c8, rfl⟩ := o8.form; simp only [List.length_append, List.length_cons, List.length_nil, Nat.zero_add] at o8; rw [← HNX.out] at o8)
            have hb8 : Below w.heap.size w w8 := hbq.trans (ch8.below hbq.size fun i hi hs => by have := (hoq.at_ hs).1; omega)
            go_roundw
            case rel => exact ⟨k + 1, by omega, by go_num, o8, hb8⟩
            case measure => simp [intOf]; omega
    · obtain rfl : k = xs.length := by omega
      go_wp2_with fail
      go_ret
      exact ⟨_, rfl, ho, hbr⟩
theorem lastOf_any (ys : List Int) (m : Int) (v : Value) (w : World) (lo hi : Nat) (hhi : hi ≤ w.heap.size) (h : RSl RInt 1 w lo hi ys [v]) (hl : ys.length ≤ 12) (hm : In64 m) :
    Calls Try.prog 95 #[v, .int .i64 m] w (NewIs w (lastN m ys)) := by
  obtain ⟨A, c, rfl⟩ := h.form
  obtain ⟨_, hc, hx⟩ := h.len_
  unfold maxLen at hx
  obtain ⟨mm, hmm⟩ : ∃ mm : Nat, mm = m.toNat := ⟨_, rfl⟩
  obtain ⟨k, hk⟩ : ∃ k : Nat, k = min mm ys.length := ⟨_, rfl⟩
  obtain ⟨q, hq⟩ : ∃ q : Nat, q = ys.length - k := ⟨_, rfl⟩
  have e1 : max m 0 = (mm : Int) := by omega
  have e2 : min (mm : Int) (ys.length : Int) = (k : Int) := by omega
  have e3 : (ys.length : Int) - (k : Int) = (q : Int) := by omega
  have hd : lastN m ys = ys.drop q := by unfold lastN; congr 1; omega
  have HD := Lib.hid hd; clear hd
  have HS := Lib.hid h; clear h
  have hql : q ≤ ys.length := by omega
  clear hmm hk hq
  go_enter Try.func95, Try.ntmps95
  go_wp2_with fail
  · have hs := sl_drop HS.out hql
    have h0 : ys.length - q = 0 := by omega
    rw [h0]
    have hnil : lastN m ys = [] := by rw [HD.out]; exact List.drop_eq_nil_of_le (by omega)
    have HN := Lib.hid hnil
    refine (clone_any [] A 0 0 w lo hi (sl_none A (Nat.zero_le _)) (by simp)).mono ?_
    rintro e w1 ⟨v', rfl, o1, b1⟩
    obtain ⟨A1, c1, rfl⟩ := o1.form
    go_wp2_with fail
    go_ret
    exact ⟨_, rfl, by rw [HN.out]; exact o1, b1⟩
  · have hs := sl_drop HS.out hql
    refine (clone_any (ys.drop q) _ _ _ w lo hi hs (by rw [List.length_drop]; omega)).mono ?_
    rintro e w1 ⟨v', rfl, o1, b1⟩
    obtain ⟨A1, c1, rfl⟩ := o1.form
    go_wp2_with fail
    go_ret
    rw [List.length_drop] at o1
    exact ⟨.slice A1 (ys.length - q) c1, rfl, by rw [HD.out]; exact o1, b1⟩
end Go.Proofs.Ytpdbohjgmghgkaa
