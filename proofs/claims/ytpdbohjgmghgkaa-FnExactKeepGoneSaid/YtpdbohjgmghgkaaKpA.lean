


/- Sets of numbers: members added; what the program keeps by all the parts of a rule. -/
import Derived.Test.YtpdbohjgmghgkaaKpM
import Derived.Test.YtpdbohjgmghgkaaKpQ
import Derived.Test.YtpdbohjgmghgkaaKpK
import Derived.Maps.OwnSet
namespace Go.Proofs.Ytpdbohjgmghgkaa
open Go.RowKit Go.Maps

theorem keyed_int : Keyed Try.prog 3 := int_keyed Try.underlying3
/-- A set that holds just these. -/
def setI (ys : List Int) : DataW Unit := setOf (.lit (.bool true)) (ys.map (Lit.int .i64))
def OwnS (w : World) (b n : Nat) (ys : List Int) : Prop := w.ownsMap Try.prog 3 (plainElem Try.prog 4) b n (setI ys)
theorem chg_grown {w w' : World} {b : Nat} (h : w.grownBy w' (some b)) : Chg (fun i => i = b) w w' :=
  ⟨h.os, h.tape, h.output, h.size, fun k hk hn => h.block k hk (by simpa using hn)⟩
set_option maxHeartbeats 2000000 in
theorem setAdd_any (acc ys : List Int) (b n : Nat) (v : Value) (w : World) (lo hi : Nat) (hlo : b < lo) (hhi : hi ≤ w.heap.size) (h : RSl RInt 1 w lo hi ys [v]) (ho : OwnS w b n acc) (hn : n + ys.length ≤ 1000) :
    Calls Try.prog 88 #[.map (some b), v] w fun e w' => e = .returned (.tuple #[]) ∧ OwnS w' b (n + ys.length) (acc ++ ys) ∧ Chg (fun i => i = b) w w' := by
  obtain ⟨A, c, rfl⟩ := h.form
  obtain ⟨_, hc, hx⟩ := h.len_
  unfold maxLen at hx
  go_enter Try.func88, Try.ntmps88
  go_wp2_with fail
  go_loopw [8] (fun ii wr => ∃ k : Nat, k ≤ ys.length ∧ ii = .int .i64 k ∧ OwnS wr b (n + k) (acc ++ ys.take k) ∧ Chg (fun i => i = b) w wr) (fun ii _ => ys.length - (intOf ii).toNat)
  case atStart => exact ⟨0, Nat.zero_le _, rfl, by simpa using ho, Chg.refl _ _⟩
  case round =>
    obtain ⟨k, hk, rfl, hown, hc⟩ := hrel
    have h2 : RSl RInt 1 wr lo hi ys [.slice A ys.length c] := (RSl.loc RInt.loc).chg h hc fun i h1 h2 => ⟨by omega, by omega⟩
    by_cases hlt : k < ys.length
    · obtain ⟨x, hxk⟩ := some_of_lt hlt
      obtain ⟨b1, off, es, rfl, _, _, _, ⟨rfl, h64⟩, hce⟩ := h2.at_ hxk
      have hcell := hce 0 _ rfl
      rw [Nat.mul_one, Nat.add_zero] at hcell
      have hkey : keyOf Try.prog 3 (.int .i64 x) = some (.int .i64 x) := keyOf_int_mk Try.underlying3 (by unfold In64 at h64; simp [Lit.wf, IntKind.min, IntKind.max, IntKind.signed, IntKind.bits]; omega)
      have hnx : ys.take (k + 1) = ys.take k ++ [x] := take_succ hxk
      have HNX := Lib.hid hnx; clear hnx hxk
      go_wp2_with (at_mapUpdate; refine wpList_mapUpdate_own _ rfl _ _ _ 123 rfl 3 4 keyed_int Try.underlying123 (plainElem Try.prog 4) b (n + k) _ rfl hown (by unfold maxLen; omega) _ _ _ rfl rfl hkey (.lit (.bool true)) [] (plainElem_bool Try.underlying4 true) ?_; intro w1 hown1 hgrow1)
      have ho1 : OwnS w1 b (n + (k + 1)) (acc ++ ys.take (k + 1)) := by
        unfold OwnS setI
        rw [HNX.out, ← List.append_assoc, List.map_append, List.map_cons, List.map_nil, setOf_snoc]
        exact hown1
      have hc1 := hc.trans (chg_grown hgrow1) fun i _ e => e
      go_roundw
      case rel => exact ⟨k + 1, by omega, by go_num, ho1, hc1⟩
      case measure => simp [intOf]; omega
    · obtain rfl : k = ys.length := by omega
      rw [List.take_length] at hown
      go_wp2_with fail
      exact bodyPost_end (v := .tuple #[]) (by simp [results, Try.results88, go_sem]) rfl ⟨rfl, hown, hc⟩
theorem setI_keys (ys : List Int) : ∀ x ∈ ys.map (Lit.int .i64), WideAt.IsKeyLit x := fun x hx => by
  obtain ⟨y, _, rfl⟩ := List.mem_map.1 hx
  simp [WideAt.IsKeyLit]
theorem OwnS.below {w w' : World} {b n : Nat} {ys : List Int} (h : OwnS w b n ys) (hb : Below w.heap.size w w') : OwnS w' b n ys := by
  have hl := World.ownsMap.lt h
  obtain ⟨es, clock, hk, F, hs, hD⟩ := h
  exact ⟨es, clock, (hb.block b hl).trans hk, F, hs, hD⟩
theorem KPart_in64 {l : List St} {span m : Int} {r : List Int} (h : KPart l span m r) : ∀ y ∈ r, In64 y := by
  rcases h with ⟨h, rfl⟩ | ⟨_, rfl⟩
  · exact sn_in64 h.1.in64 _
  · exact fun y hy => (by cases hy)
theorem KPart_len {l : List St} {span m : Int} {r : List Int} (h : KPart l span m r) : r.length ≤ 12 := by
  rcases h with ⟨h, rfl⟩ | ⟨_, rfl⟩
  · rw [sn_len]
    have h1 := (kD_sub l span m).length_le
    have h2 := ids_len l span l.length
    have h3 := h.2
    omega
  · simp
set_option maxHeartbeats 4000000 in
theorem implKeepAll_any (xs : List St) (a b c9 : Int) (h64 : In64 a ∧ In64 b ∧ In64 c9) (v : Value) (w : World) (lo hi : Nat) (hhi : hi ≤ w.heap.size) (h : RSl RSt 2 w lo hi xs [v]) (r : List Int) (hr : KAllR xs a b c9 r) :
    Calls Try.prog 45 #[v, .agg #[.int .i64 a, .int .i64 b, .int .i64 c9]] w (NewIs w r) := by
  have hmm := @run_makeMap Try.prog
  obtain ⟨A, c, rfl⟩ := h.form
  obtain ⟨_, hc, hx⟩ := h.len_
  unfold maxLen at hx
  go_enter Try.func45, Try.ntmps45
  go_wp2_with fail
  have own0 : OwnS ((w.alloc (.cells #[.int .i64 a, .int .i64 b, .int .i64 c9] 68)).alloc (.map #[] 0)) (w.heap.size + 1) 0 [] := by
    have := World.ownsMap_made (w.alloc (.cells #[.int .i64 a, .int .i64 b, .int .i64 c9] 68)) Try.prog 3 (plainElem (H := Unit) Try.prog 4)
    rw [World.size_alloc] at this
    exact this
  have k0 := blk_keep (Blk.new w 68 #[.int .i64 a, .int .i64 b, .int .i64 c9]) (below_alloc _ (.map #[] 0))
  have hbw := below_alloc' (below_alloc w (.cells #[.int .i64 a, .int .i64 b, .int .i64 c9] 68)) (.map #[] 0)
  have sz0 : w.heap.size + 2 ≤ ((w.alloc (.cells #[.int .i64 a, .int .i64 b, .int .i64 c9] 68)).alloc (.map #[] 0)).heap.size := by simp
  generalize (w.alloc (.cells #[.int .i64 a, .int .i64 b, .int .i64 c9] 68)).alloc (.map #[] 0) = w0 at *
  have ck0 := k0.cell
  have fk0 := k0.frozen
  have own := own0
  clear own0
  obtain ⟨r1, hr1⟩ := KPart_total xs 0 a
  have R1 := Lib.hid hr1; clear hr1
  have sl1 := sl_keep RSt.loc h hbw hhi
  refine (implKeepLast_any xs a h64.1 _ w0 _ _ (Nat.le_trans hhi hbw.size) sl1 r1 R1.out).mono ?_
  rintro e x1 ⟨v1, rfl, o1, bx1⟩
  have at1 := o1.sl (KPart_in64 R1.out) (Nat.le_refl _)
  have len1 := KPart_len R1.out
  obtain ⟨A1, c1, rfl⟩ := o1.form
  replace k0 := blk_keep k0 bx1
  replace own := OwnS.below own bx1
  replace hbw := below_below hbw bx1
  go_wp2_with fail
  refine (setAdd_any [] r1 (w.heap.size + 1) _ _ x1 _ _ (by have := sz0; omega) (Nat.le_refl _) at1 own (by omega)).mono ?_
  rintro e w1 ⟨rfl, own1, ch1⟩
  have sz1 : w.heap.size + 2 ≤ w1.heap.size := by have := sz0; have := bx1.size; have := ch1.size; omega
  replace k0 := blk_chg k0 ch1 (by omega)
  replace ck0 := k0.cell
  replace fk0 := k0.frozen
  replace own := own1
  replace hbw := hbw.trans (ch1.below hbw.size fun i hi hs => by omega)
  clear own1 o1 at1 sl1 ch1 bx1
  go_wp2_with fail
  obtain ⟨r2, hr2⟩ := KPart_total xs 1 b
  have R2 := Lib.hid hr2; clear hr2
  have sl2 := sl_keep RSt.loc h hbw hhi
  refine (implKeepDays_any xs 1 b (.inl rfl) h64.2.1 _ w1 _ _ (Nat.le_trans hhi hbw.size) sl2 r2 R2.out).mono ?_
  rintro e x2 ⟨v2, rfl, o2, bx2⟩
  have at2 := o2.sl (KPart_in64 R2.out) (Nat.le_refl _)
  have len2 := KPart_len R2.out
  obtain ⟨A2, c2, rfl⟩ := o2.form
  replace k0 := blk_keep k0 bx2
  replace own := OwnS.below own bx2
  replace hbw := below_below hbw bx2
  go_wp2_with fail
  refine (setAdd_any ([] ++ r1) r2 (w.heap.size + 1) _ _ x2 _ _ (by have := sz1; omega) (Nat.le_refl _) at2 own (by omega)).mono ?_
  rintro e w2 ⟨rfl, own2, ch2⟩
  have sz2 : w.heap.size + 2 ≤ w2.heap.size := by have := sz1; have := bx2.size; have := ch2.size; omega
  replace k0 := blk_chg k0 ch2 (by omega)
  replace ck0 := k0.cell
  replace fk0 := k0.frozen
  replace own := own2
  replace hbw := hbw.trans (ch2.below hbw.size fun i hi hs => by omega)
  clear own2 o2 at2 sl2 ch2 bx2
  go_wp2_with fail
  obtain ⟨r3, hr3⟩ := KPart_total xs 7 c9
  have R3 := Lib.hid hr3; clear hr3
  have sl3 := sl_keep RSt.loc h hbw hhi
  refine (implKeepDays_any xs 7 c9 (.inr rfl) h64.2.2 _ w2 _ _ (Nat.le_trans hhi hbw.size) sl3 r3 R3.out).mono ?_
  rintro e x3 ⟨v3, rfl, o3, bx3⟩
  have at3 := o3.sl (KPart_in64 R3.out) (Nat.le_refl _)
  have len3 := KPart_len R3.out
  obtain ⟨A3, c3, rfl⟩ := o3.form
  replace k0 := blk_keep k0 bx3
  replace own := OwnS.below own bx3
  replace hbw := below_below hbw bx3
  go_wp2_with fail
  refine (setAdd_any ([] ++ r1 ++ r2) r3 (w.heap.size + 1) _ _ x3 _ _ (by have := sz2; omega) (Nat.le_refl _) at3 own (by omega)).mono ?_
  rintro e w3 ⟨rfl, own3, ch3⟩
  have sz3 : w.heap.size + 2 ≤ w3.heap.size := by have := sz2; have := bx3.size; have := ch3.size; omega
  replace k0 := blk_chg k0 ch3 (by omega)
  replace ck0 := k0.cell
  replace fk0 := k0.frozen
  replace own := own3
  replace hbw := hbw.trans (ch3.below hbw.size fun i hi hs => by omega)
  clear own3 o3 at3 sl3 ch3 bx3
  go_wp2_with fail
  have hsz : Maps.size (setI ([] ++ r1 ++ r2 ++ r3)) ≤ 36 := by
    have := World.ownsMap.size_le own
    omega
  refine (Try.setList _ _ _ _ w3 own (by unfold maxLen; omega) (by omega)).mono ?_
  rintro e w4 ⟨v4, ss, rfl, hp, hrow, _, b4⟩
  have hk := set_keys (DataW.lit (H := Unit) (.bool true)) ([] ++ r1 ++ r2 ++ r3)
  have hsorted : ss.mergeSort (fun x y => decide (x ≤ y)) = r := sorted_is (hp.nodup_iff.2 hk.1) hr.asc fun x => (hp.mem_iff.trans (hk.2 x)).trans (hr.mem R1.out R2.out R3.out x).symm
  have hlen : ss.length = r.length := by rw [← hsorted, List.length_mergeSort]
  rw [hsorted, hlen] at hrow
  have o4 : OwnF FInt 3 w4 w.heap.size v4 r := by
    refine OwnF.base (base := w3.heap.size) ?_ hbw.size
    unfold OwnF
    rw [flats_ints]
    exact hrow
  have hbw4 := below_below hbw b4
  clear hrow hsorted hlen hk hp own hr
  obtain ⟨A4, c4, rfl⟩ := o4.form
  go_wp2_with fail
  go_ret
  exact ⟨_, rfl, o4, hbw4⟩
end Go.Proofs.Ytpdbohjgmghgkaa
