


/- What is kept, by the reference. -/
import Derived.Test.YtpdbohjgmghgkaaKpS
import Derived.Test.YtpdbohjgmghgkaaKpK
import Derived.Test.YtpdbohjgmghgkaaKpT
import Derived.Test.YtpdbohjgmghgkaaEf
namespace Go.Proofs.Ytpdbohjgmghgkaa
open Go.RowKit

theorem tell (p : Prop) : ∃ q : Bool, q = true ↔ p := by
  by_cases h : p
  · exact ⟨true, by simp [h]⟩
  · exact ⟨false, by simp [h]⟩
theorem range_drop (k d : Nat) : (List.range (k + 1)).drop d = (List.range k).drop d ++ if d ≤ k then [k] else [] := by
  rw [List.range_succ]
  by_cases h : d ≤ k
  · rw [if_pos h, List.drop_append_of_le_length (by rw [List.length_range]; exact h)]
  · rw [if_neg h, List.drop_eq_nil_of_le (by simp; omega), List.drop_eq_nil_of_le (by simp; omega)]; rfl
theorem kD_zero (xs : List St) (m : Int) : kD xs 0 m = (List.range xs.length).drop (xs.length - m.toNat) := by
  unfold kD lastN
  rw [ids_zero, List.length_range]
set_option maxHeartbeats 4000000 in
theorem specKeepLast_any (xs : List St) (m : Int) (hm : In64 m) (v : Value) (w : World) (lo hi : Nat) (hhi : hi ≤ w.heap.size) (h : RSl RSt 2 w lo hi xs [v]) (r : List Int) (hr : KPart xs 0 m r) :
    Calls Try.prog 90 #[v, .int .i64 m] w (NewIs w r) := by
  obtain ⟨A, c, rfl⟩ := h.form
  obtain ⟨_, hc, hx⟩ := h.len_
  unfold maxLen at hx
  go_enter Try.func90, Try.ntmps90
  have ba := below_alloc w (.cells #[] 3)
  have l0 : OwnF FInt 3 (w.alloc (.cells #[] 3)) w.heap.size (.slice (some ⟨w.heap.size, 0, none⟩) 0 0) [] := OwnF.lit0 (Lit0.new _ _ (Nat.le_refl _))
  have h0 := sl_keep RSt.loc h ba hhi
  go_wp2_with fail
  generalize w.alloc (.cells #[] 3) = w0 at *
  obtain ⟨q, hq⟩ := tell (stP xs)
  refine (specStampsOk_any xs _ w0 _ _ (Nat.le_trans hhi ba.size) h0 q hq).mono ?_
  rintro e w1 ⟨rfl, b1⟩
  have bb := below_below ba b1
  have o1 := l0.below b1
  clear l0
  cases q with
  | false =>
    have p2 : ¬ stP xs := fun h => by have := hq.2 h; cases this
    obtain rfl : r = [] := by
      rcases hr with ⟨h, _⟩ | ⟨_, h⟩
      · exact absurd h p2
      · exact h
    clear hr p2 hq
    go_wp2_with fail
    go_ret
    exact ⟨_, rfl, o1, bb⟩
  | true =>
    have p2 := hq.1 rfl
    obtain rfl : r = sn xs (kD xs 0 m) := by
      rcases hr with ⟨_, h⟩ | ⟨h, _⟩
      · exact h
      · exact absurd p2 h
    have H2 := Lib.hid p2; clear p2 hq hr
    go_wp2_with fail
    go_loopw [5, 6] (fun oo ii wr => ∃ k : Nat, k ≤ xs.length ∧ ii = .int .i64 k ∧ OwnF FInt 3 wr w.heap.size oo (sn xs ((List.range k).drop (xs.length - m.toNat))) ∧ Below w.heap.size w wr) (fun oo ii _ => xs.length - (intOf ii).toNat)
    case atStart => exact ⟨0, Nat.zero_le _, rfl, by simpa [sn] using o1, bb⟩
    case round =>
      clear o1 bb b1 h0 ba
      obtain ⟨k, hk, rfl, ho, hbr⟩ := hrel
      have g2 := sl_keep RSt.loc h hbr hhi
      obtain ⟨A2, c2, rfl⟩ := ho.form
      have hlo : (sn xs ((List.range k).drop (xs.length - m.toNat))).length ≤ 12 := by
        rw [sn_len, List.length_drop, List.length_range]
        have := H2.out.2
        omega
      have hnx := range_drop k (xs.length - m.toNat)
      have HNX := Lib.hid hnx; clear hnx
      by_cases hlt : k < xs.length
      · obtain ⟨x, hxk⟩ := some_of_lt hlt
        obtain ⟨b1, off, rfl, _, _, h64, hcell, hcell1⟩ := st_at g2 hxk
        have HX := Lib.hid hxk; clear hxk
        by_cases hd : xs.length - m.toNat ≤ k
        · have u1 : decide ((xs.length : Int) - (k : Int) ≤ m) = true := decide_eq_true (by omega)
          have hnx2 : sn xs ((List.range (k + 1)).drop (xs.length - m.toNat)) = sn xs ((List.range k).drop (xs.length - m.toNat)) ++ [x.s] := by
            rw [HNX.out, if_pos hd]; unfold sn; rw [List.map_append]; simp [snapAt_get HX.out]
          have HN2 := Lib.hid hnx2; clear hnx2
          have HLO := Lib.hid hlo
          revert ho hlo
          generalize hL : sn xs ((List.range k).drop (xs.length - m.toNat)) = L at *
          intro ho hlo
          go_wp2_with (at_builtin; refine app_flat (F := FInt) (v := .slice A2 L.length c2) rfl (.tmp 24) (.tmp 30) 49 rfl elem_int x.s rfl ho rfl rfl (by omega) hbr.size ?_; intro v8 w8 o8 ch8 at8; obtain ⟨A8, c8, rfl⟩ := o8.form; simp only [List.length_append, List.length_cons, List.length_nil, Nat.zero_add] at o8)
          have hb8 : Below w.heap.size w w8 := hbr.trans (ch8.below hbr.size fun i hi hs => by have := (ho.at_ hs).1; omega)
          go_roundw
          case rel => exact ⟨k + 1, by omega, by go_num, by rw [HN2.out]; exact o8, hb8⟩
          case measure => simp [intOf]; omega
        · have u1 : decide ((xs.length : Int) - (k : Int) ≤ m) = false := decide_eq_false (by omega)
          go_wp2_with fail
          go_roundw
          case rel => exact ⟨k + 1, by omega, by go_num, by rw [HNX.out, if_neg hd, List.append_nil]; exact ho, hbr⟩
          case measure => simp [intOf]; omega
      · obtain rfl : k = xs.length := by omega
        go_wp2_with fail
        go_ret
        exact ⟨_, rfl, by rw [kD_zero]; exact ho, hbr⟩
/-- append(T{y}, xs...): the literal of one element is new. -/
theorem app_front {α : Type} {F : Flat α} {P : Program} {w : World} {ops : Array Oper} {rest : List Oper} {o : Oper} {a : Act} {Q : Exit → Act → World → Prop} (hgd : o.guard = none) (s x : Operand) (t : TypeId)
    (ho : o.op = .call { callee := .builtin .append, args := #[s, x], argTypes := #[t, t] })
    {e : TypeId} {bytes : Nat} (hE : Elem P t e F.sz bytes) {base : Nat} (y : α) {xs : List α} {A : Option Addr} {c : Nat} (hs : a.eval s = .slice (some ⟨w.heap.size, 0, none⟩) 1 1) (hx : a.eval x = .slice A xs.length c) {es : Array Value} (hes : es.toList = F.cells y)
    (src : 0 < xs.length → ∃ a, A = some a ∧ ∀ (j : Nat) (u : Value), (flats F xs)[j]? = some u → ∀ w', Below w.heap.size w w' → w'.cell? (a.add j) = some u)
    (hn : xs.length ≤ 1099511627775) (hbase : base ≤ w.heap.size)
    (h : ∀ v' w', OwnF F e w' base v' (y :: xs) → Below w.heap.size w w' → wpList P ops Q rest (a.put o.dst v') w') :
    wpList P ops Q (o :: rest) a (w.alloc (.cells es e)) := by
  have hl : es.size = 1 * F.sz := by rw [← Array.length_toList, hes, F.len, Nat.one_mul]
  have hown := World.ownsRow_lit (e := e) (size := F.sz) (base := w.heap.size) w es 1 (Nat.le_refl _) (by unfold maxLen; omega) hl
  refine app_many hgd s x t ho hE hs hown hx (flats_len F xs) (fun hp => ?_) (flats_one F xs) (by omega) (by simp) fun v' w' h2 => h v' w' ?_ ?_
  · obtain ⟨ad, hA, hc⟩ := src hp
    exact ⟨ad, hA, fun j u hu => hc j u hu _ (below_alloc _ _)⟩
  · have h3 := own_base h2.own hbase
    unfold OwnF
    rw [List.length_cons, Nat.add_comm]
    show World.ownsRow _ _ _ _ _ _ (F.cells y ++ flats F xs)
    rw [← hes]
    exact h3
  · exact (below_alloc w _).trans (h2.chg.below (by simp) fun i hi hs => by
      have : w.heap.size = i := by simpa [Value.ownBlock] using hs
      omega)
/-- What l31Days has in mind when it has come down to j. -/
def lastV (l : List St) (span : Int) (j : Nat) : Int := if j = l.length then -1 else (dayAt l j).tdiv span
theorem lastV_at {l : List St} {span : Int} {k : Nat} {x : St} (hx : l[k]? = some x) : lastV l span k = x.d.tdiv span := by
  unfold lastV
  rw [if_neg (by have := lt_of_some hx; omega), dayAt_get hx]
theorem endS_back {l : List St} {span : Int} (h7 : span = 1 ∨ span = 7) {k : Nat} {x : St} (hx : l[k]? = some x) (h : 0 ≤ x.d) : endS l span k = (x.d / span != lastV l span (k + 1)) := by
  have hd : x.d.tdiv span = x.d / span := Int.tdiv_eq_ediv_of_nonneg h
  by_cases h1 : k + 1 = l.length
  · rw [endS_last h1]
    unfold lastV
    rw [if_pos h1]
    have : ¬ x.d / span = -1 := by rcases h7 with rfl | rfl <;> omega
    exact (bne_iff_ne.2 this).symm
  · obtain ⟨y, hy⟩ := some_of_lt (l := l) (k := k + 1) (by have := lt_of_some hx; omega)
    rw [endS_mid (by omega) h1 hx hy, lastV_at hy, hd]
    rw [Bool.eq_iff_iff, bne_iff_ne, bne_iff_ne]
    exact ⟨Ne.symm, Ne.symm⟩
theorem lastV_skip {l : List St} {span : Int} (h7 : span = 1 ∨ span = 7) {k : Nat} {x : St} (hx : l[k]? = some x) (h : 0 ≤ x.d) (he : endS l span k = false) : lastV l span k = lastV l span (k + 1) := by
  rw [endS_back h7 hx h] at he
  rw [lastV_at hx, Int.tdiv_eq_ediv_of_nonneg h]
  simpa using he
theorem tl_len (l : List St) (span : Int) (j : Nat) : (tl l span j).length ≤ l.length := by
  unfold tl
  have := List.length_filter_le (endS l span) (List.range' j (l.length - j))
  rw [List.length_range'] at this
  omega
set_option maxHeartbeats 4000000 in
theorem l31Days_any (xs : List St) (span m : Int) (h7 : span = 1 ∨ span = 7) (hm : In64 m) (v : Value) (w : World) (lo hi : Nat) (hhi : hi ≤ w.heap.size) (h : RSl RSt 2 w lo hi xs [v]) (hst : stP xs) :
    Calls Try.prog 91 #[v, .int .i64 span, .int .i64 m] w (NewIs w (sn xs (kD xs span m))) := by
  have H7 := Lib.hid h7
  have HST := Lib.hid hst
  have hl12 := hst.2
  clear hst
  obtain ⟨A, c, rfl⟩ := h.form
  obtain ⟨_, hc, hx⟩ := h.len_
  unfold maxLen at hx
  go_enter Try.func91, Try.ntmps91
  go_wp2_with fail
  have ba := below_alloc w (.cells #[] 3)
  have l0 : OwnF FInt 3 (w.alloc (.cells #[] 3)) w.heap.size (.slice (some ⟨w.heap.size, 0, none⟩) 0 0) [] := OwnF.lit0 (Lit0.new _ _ (Nat.le_refl _))
  generalize w.alloc (.cells #[] 3) = w0 at *
  go_loopw [7, 8, 9] (fun oo ll ii wr => ∃ j : Nat, j ≤ xs.length ∧ ii = .int .i64 ((j : Int) - 1) ∧ ll = .int .i64 (lastV xs span j) ∧ OwnF FInt 3 wr w.heap.size oo (sn xs (tl xs span j)) ∧ (((tl xs span j).length : Int) ≤ m ∨ j = xs.length) ∧ Below w.heap.size w wr) (fun _ _ ii _ => (intOf ii + 1).toNat)
  case atStart => exact ⟨xs.length, Nat.le_refl _, rfl, by simp [lastV], by rw [tl_end]; exact l0, .inr rfl, ba⟩
  case round =>
    clear l0 ba
    obtain ⟨j, hj, rfl, rfl, ho, hlen, hbr⟩ := hrel
    have HLEN := Lib.hid hlen; clear hlen
    have g2 := sl_keep RSt.loc h hbr hhi
    obtain ⟨A2, c2, rfl⟩ := ho.form
    have hlo : (sn xs (tl xs span j)).length ≤ 12 := by
      rw [sn_len]
      have := tl_len xs span j
      omega
    have hle : (sn xs (tl xs span j)).length = (tl xs span j).length := sn_len _ _
    cases j with
    | zero =>
      have hout := tl_out (l := xs) (span := span) (m := m) hj HLEN.out (.inl rfl)
      have HO := Lib.hid hout; clear hout hle
      go_wp2_with fail
      go_ret
      exact ⟨_, rfl, by rw [← HO.out]; exact ho, hbr⟩
    | succ k =>
      obtain ⟨x, hxk⟩ := some_of_lt (l := xs) (k := k) (by omega)
      have e1 : ((k + 1 : Nat) : Int) - 1 = (k : Int) := by omega
      rw [e1]
      obtain ⟨b1, off, rfl, _, _, h64, hcell, hcell1⟩ := st_at g2 hxk
      have HX := Lib.hid hxk; clear hxk
      by_cases hmm : ((tl xs span (k + 1)).length : Int) < m
      · have u1 : decide (((sn xs (tl xs span (k + 1))).length : Int) < m) = true := decide_eq_true (by rw [hle]; exact hmm)
        have dx := (HST.out.1.1 x (List.mem_of_getElem? HX.out)).2
        have hend := endS_back H7.out HX.out dx.1
        have hstep := tl_step (l := xs) (span := span) (j := k) (by omega)
        have HSTEP := Lib.hid hstep; clear hstep
        have hlast := lastV_at (span := span) HX.out
        rw [Int.tdiv_eq_ediv_of_nonneg dx.1] at hlast
        have hsm : 0 ≤ x.d / span ∧ x.d / span ≤ 99 := by have := H7.out; rcases this with h | h <;> subst h <;> omega
        have hsp : 1 ≤ span ∧ span ≤ 7 := by have := H7.out; omega
        have HL := Lib.hid hlast; clear hlast
        have u2 : (span == 0) = false := beq_eq_false_iff_ne.2 (by omega)
        have u3 : x.d.tdiv span = x.d / span := Int.tdiv_eq_ediv_of_nonneg dx.1
        have u4 : wrap64 (x.d / span) = x.d / span := by unfold wrap64; omega
        obtain ⟨q, hq⟩ : ∃ q : Bool, q = (x.d / span != lastV xs span (k + 1)) := ⟨_, rfl⟩
        rw [← hq] at hend
        have HEND := Lib.hid hend; clear hend
        replace hq := hq.symm
        cases q with
        | true =>
          have hnx : sn xs (tl xs span k) = x.s :: sn xs (tl xs span (k + 1)) := by
            rw [HSTEP.out, if_pos HEND.out]; unfold sn; rw [List.map_append]; simp [snapAt_get HX.out]
          have hnl : (((tl xs span k).length : Int) ≤ m ∨ k = xs.length) := by
            refine .inl ?_
            rw [HSTEP.out, if_pos HEND.out]; simp; omega
          have HNX := Lib.hid hnx; clear hnx
          have HNL := Lib.hid hnl; clear hnl
          have hsrc := src_flat (ho.sl (sn_in64 HST.out.1.in64 _) (Nat.le_refl _)) (Nat.le_refl _)
          have HSRC := Lib.hid hsrc; clear hsrc
          have HLO := Lib.hid hlo
          clear hle hmm
          revert ho hlo HSRC HNX u1
          generalize hL : sn xs (tl xs span (k + 1)) = L
          intro ho hlo u1 HNX HSRC
          go_wp2_with (at_builtin; refine app_front (F := FInt) rfl (.tmp 45) (.tmp 46) 49 rfl elem_int (xs := L) (A := A2) (c := c2) x.s rfl rfl rfl HSRC.out (by omega) hbr.size ?_; intro v8 w8 o8 b8; obtain ⟨A8, c8, rfl⟩ := o8.form; simp only [List.length_cons] at o8)
          go_roundw
          case rel => exact ⟨k, by omega, by go_num, by rw [HL.out], by rw [HNX.out]; exact o8, HNL.out, hbr.trans (b8.mono hbr.size)⟩
          case measure => simp [intOf]
        | false =>
          have hnx : tl xs span k = tl xs span (k + 1) := by
            rw [HSTEP.out, if_neg (by rw [HEND.out]; simp)]; rfl
          have hls := lastV_skip H7.out HX.out dx.1 HEND.out
          have HNX := Lib.hid hnx; clear hnx
          have HLS := Lib.hid hls; clear hls
          go_wp2_with fail
          go_roundw
          case rel => exact ⟨k, by omega, by go_num, by rw [HLS.out], by rw [HNX.out]; exact ho, .inl (by rw [HNX.out]; omega), hbr⟩
          case measure => simp [intOf]
      · have u1 : decide (((sn xs (tl xs span (k + 1))).length : Int) < m) = false := decide_eq_false (by rw [hle]; exact hmm)
        have hout := tl_out (l := xs) (span := span) (m := m) hj HLEN.out (.inr (by omega))
        have HO := Lib.hid hout; clear hout hle
        go_wp2_with fail
        go_ret
        exact ⟨_, rfl, by rw [← HO.out]; exact ho, hbr⟩
end Go.Proofs.Ytpdbohjgmghgkaa
