


/- Packs, right or not, by the reference. -/
import Derived.Test.YtanppokbjladfaaStrS
import Derived.Test.YtanppokbjladfaaPk
namespace Go.Proofs.Ytanppokbjladfaa
open Go.RowKit

/-- An item is right: its body is a padded piece, of its name. -/
def itemP (key : Int) (x : It) : Prop := ∃ p, padBack (bs x.b) = some p ∧ nameL key p = x.n
theorem padBack_piece {l p : List Nat} (h : padBack l = some p) : pieceP p ∧ padL p = l := by
  unfold padBack at h
  split at h
  · rename_i h1
    have e := Option.some.inj h
    rw [e] at h1
    exact h1
  · cases h
theorem l2Key_any (x : Int) (w : World) (b : Bool) (hb : b = true ↔ 1 ≤ x ∧ x ≤ 99) : Calls Try.prog 147 #[.int .i64 x] w fun e w' => e = .returned (.bool b) ∧ w = w' := by
  go_enter Try.func147, Try.ntmps147
  go_wp2_with fail
  refine (l6In_any _ _ _ _).mono ?_
  rintro e w1 ⟨rfl, rfl⟩
  go_wp2_with fail
  go_ret
  exact ⟨ret_bool (by rw [Bool.eq_iff_iff, hb]; simp), rfl⟩
theorem l3Right_any (key : Int) (hk : 1 ≤ key ∧ key ≤ 99) (x : It) (hx : x.b.size ≤ maxLen) (w : World) (b : Bool) (hb : b = true ↔ itemP key x) :
    Calls Try.prog 163 #[.int .i64 key, .agg #[.int .i64 x.n, .string x.b]] w fun e w' => e = .returned (.bool b) ∧ Below w.heap.size w w' := by
  have HB := Lib.hid hb; clear hb
  have HX : x.b.size ≤ maxLen := hx
  go_enter Try.func163, Try.ntmps163
  go_wp2_with fail
  have hbw0 : Below w.heap.size w (w.alloc (.cells #[.int .i64 x.n, .string x.b] 44)) := below_alloc _ _
  have k0 : Blk (w.alloc (.cells #[.int .i64 x.n, .string x.b] 44)) (w.heap.size) 44 #[.int .i64 x.n, .string x.b] := by
    have hk := Blk.new w 44 #[.int .i64 x.n, .string x.b]
    exact hk
  have hsw0 : w.heap.size + 1 ≤ (w.alloc (.cells #[.int .i64 x.n, .string x.b] 44)).heap.size := by simp only [World.size_alloc]; omega
  generalize (w.alloc (.cells #[.int .i64 x.n, .string x.b] 44)) = w0 at *
  have ck0 := k0.cell
  have fk0 := k0.frozen
  refine (PadBack_any x.b HX w0).mono ?_
  rintro e w1 ⟨⟨t, ok, rfl, ht⟩, rfl⟩
  rcases ht with ⟨rfl, ht⟩ | ⟨rfl, ht, _⟩
  · have hpc := (padBack_piece ht).1
    have hbb : b = (nameL key (bs t) == x.n) := by
      rw [Bool.eq_iff_iff, HB.out, beq_iff_eq]
      unfold itemP
      rw [ht]
      constructor
      · rintro ⟨p, h1, h2⟩; cases h1; exact h2
      · intro h; exact ⟨_, rfl, h⟩
    have HPC := Lib.hid hpc
    have HBB := Lib.hid hbb
    have HCALL := Lib.hid (fun w => l2Name_any key t hk hpc w)
    clear hpc hbb ht
    generalize nameL key (bs t) = nm at *
    go_wp2_with fail
    have f0 : w0.cell? ⟨w.heap.size, 0, none⟩ = some (.int .i64 x.n) := ck0 0
    have past0 := past_cell f0
    refine region_past (by kernel_rfl) (by kernel_rfl) ?_
    repeat (go_big_quiet_step (first | (go_at_call 153; refine past_same (HCALL.out _))))
    refine wpQuiet_nil ?_
    intro wq hw1
    have hq := past_out hw1
    clear hw1 past0
    go_wp2_with fail
    go_ret
    exact ⟨ret_bool HBB.out.symm, below_below hbw0 hq⟩
  · have hbb : b = false := by
      rw [← Bool.not_eq_true, HB.out]
      rintro ⟨p, h1, _⟩
      rw [ht] at h1; cases h1
    have HBB := Lib.hid hbb
    clear hbb ht
    go_wp2_with fail
    have f0 : w0.cell? ⟨w.heap.size, 0, none⟩ = some (.int .i64 x.n) := ck0 0
    have past0 := past_cell f0
    refine region_past (by kernel_rfl) (by kernel_rfl) ?_
    repeat (go_big_quiet_step (fail))
    refine wpQuiet_nil ?_
    intro wq hw1
    have hq := past_out hw1
    clear hw1 past0
    go_wp2_with fail
    go_ret
    exact ⟨ret_bool HBB.out.symm, below_below hbw0 hq⟩
/-- A right pack. -/
def packP (key : Int) (p : Pk) : Prop := (1 ≤ p.no ∧ p.no ≤ 99) ∧ (1 ≤ key ∧ key ≤ 99) ∧ (1 ≤ p.its.length ∧ p.its.length ≤ 4) ∧ (∀ x ∈ p.its, itemP key x) ∧ p.its.Pairwise fun a b => a.n < b.n
def itsA (key : Int) (l : List It) : Prop := (∀ x ∈ l, itemP key x) ∧ l.Pairwise fun a b => a.n < b.n
theorem itsA_snoc {key : Int} {xs : List It} {x : It} : itsA key (xs ++ [x]) ↔ itsA key xs ∧ itemP key x ∧ ∀ y ∈ xs, y.n < x.n := by
  unfold itsA
  rw [List.pairwise_append]
  constructor
  · intro ⟨h1, h2, _, h3⟩
    exact ⟨⟨fun y hy => h1 y (by simp [hy]), h2⟩, h1 x (by simp), fun y hy => h3 y hy x (by simp)⟩
  · intro ⟨⟨h1, h2⟩, h3, h4⟩
    refine ⟨fun y hy => ?_, h2, List.pairwise_singleton _ _, fun a ha b hb => ?_⟩
    · rcases List.mem_append.1 hy with hy | hy
      · exact h1 y hy
      · rw [List.mem_singleton.1 hy]; exact h3
    · rw [List.mem_singleton.1 hb]; exact h4 a ha
theorem its_yes0 {key : Int} {xs : List It} {x : It} (hx : xs[0]? = some x) (h : itemP key x) : itsA key (xs.take 1) := by
  rw [take_succ hx]
  exact itsA_snoc.2 ⟨⟨fun y hy => (by cases hy), List.Pairwise.nil⟩, h, fun y hy => (by cases hy)⟩
theorem its_yes {key : Int} {xs : List It} {x y : It} {j : Nat} (hn : itsA key (xs.take (j + 1))) (hy : xs[j]? = some y) (hx : xs[j + 1]? = some x) (h : itemP key x) (hlt : y.n < x.n) : itsA key (xs.take (j + 1 + 1)) := by
  rw [take_succ hx]
  refine itsA_snoc.2 ⟨hn, h, fun z hz => ?_⟩
  rw [take_succ hy] at hz hn
  rcases List.mem_append.1 hz with hz | hz
  · have := (itsA_snoc.1 hn).2.2 z hz; omega
  · rw [List.mem_singleton.1 hz]; exact hlt
theorem its_no {key : Int} {xs : List It} {x : It} {k : Nat} (hx : xs[k]? = some x) (h : ¬ itemP key x) : ¬ itsA key xs := fun hp => h (hp.1 x (List.mem_of_getElem? hx))
theorem its_no2 {key : Int} {xs : List It} {x y : It} {j : Nat} (hy : xs[j]? = some y) (hx : xs[j + 1]? = some x) (h : ¬ y.n < x.n) : ¬ itsA key xs := fun hp => by
  have h1 := List.pairwise_iff_getElem.1 hp.2 j (j + 1) (lt_of_some hy) (lt_of_some hx) (by omega)
  rw [(List.getElem?_eq_some_iff.1 hy).2, (List.getElem?_eq_some_iff.1 hx).2] at h1
  exact h h1
theorem itsA_nil (key : Int) : itsA key [] := ⟨fun x h => (by cases h), List.Pairwise.nil⟩
theorem bool_is (p : Prop) : ∃ b : Bool, b = true ↔ p := by
  by_cases h : p
  · exact ⟨true, by simp [h]⟩
  · exact ⟨false, by simp [h]⟩
set_option maxHeartbeats 4000000 in
theorem specPackOk_any (key : Int) (p : Pk) (v : Value) (w : World) (lo hi : Nat) (hhi : hi ≤ w.heap.size) (h : RIts w lo hi p.its [v]) (b : Bool) (hb : b = true ↔ packP key p) :
    Calls Try.prog 149 #[.int .i64 key, .agg #[.int .i64 p.no, v]] w fun e w' => e = .returned (.bool b) ∧ Below w.heap.size w w' := by
  have HB := Lib.hid hb; clear hb
  obtain ⟨A, c, rfl⟩ := h.form
  obtain ⟨_, hc, hx⟩ := h.len_
  unfold maxLen at hx
  go_enter Try.func149, Try.ntmps149
  go_wp2_with fail
  have hbw0 : Below w.heap.size w (w.alloc (.cells #[.int .i64 p.no, .slice A p.its.length c] 37)) := below_alloc _ _
  have k0 : Blk (w.alloc (.cells #[.int .i64 p.no, .slice A p.its.length c] 37)) (w.heap.size) 37 #[.int .i64 p.no, .slice A p.its.length c] := by
    have hk := Blk.new w 37 #[.int .i64 p.no, .slice A p.its.length c]
    exact hk
  have hsw0 : w.heap.size + 1 ≤ (w.alloc (.cells #[.int .i64 p.no, .slice A p.its.length c] 37)).heap.size := by simp only [World.size_alloc]; omega
  generalize (w.alloc (.cells #[.int .i64 p.no, .slice A p.its.length c] 37)) = w0 at *
  have ck0 := k0.cell
  have fk0 := k0.frozen
  have h0 := RIts.tloc.below h hbw0 hhi
  by_cases p1 : 1 ≤ p.no ∧ p.no ≤ 99
  · refine (l6In_yes p.no 1 99 p1.1 p1.2 w0).mono ?_
    rintro e w1 ⟨rfl, rfl⟩
    go_wp2_with fail
    by_cases p2 : 1 ≤ key ∧ key ≤ 99
    · refine (l2Key_any key w0 true (by simp only [true_iff]; exact p2)).mono ?_
      rintro e w1 ⟨rfl, rfl⟩
      go_wp2_with fail
      by_cases p3 : 1 ≤ p.its.length ∧ p.its.length ≤ 4
      · refine (l6In_yes p.its.length 1 4 (by omega) (by omega) w0).mono ?_
        rintro e w1 ⟨rfl, rfl⟩
        have hbi : b = true ↔ itsA key p.its := by rw [HB.out]; exact ⟨fun h => ⟨h.2.2.2.1, h.2.2.2.2⟩, fun h => ⟨p1, p2, p3, h.1, h.2⟩⟩
        have HBI := Lib.hid hbi; clear hbi HB
        go_wp2_with fail
        go_loopw [5] (fun i wr => ∃ k : Nat, k ≤ p.its.length ∧ i = .int .i64 k ∧ itsA key (p.its.take k) ∧ Below w0.heap.size w0 wr) (fun i _ => p.its.length - (intOf i).toNat)
        case atStart => exact ⟨0, Nat.zero_le _, rfl, itsA_nil key, Below.refl _ _⟩
        case round =>
          obtain ⟨k, hk, rfl, hn, hbr⟩ := hrel
          have HN := Lib.hid hn; clear hn
          have h1 := RIts.tloc.below h0 hbr (Nat.le_trans hhi hbw0.size)
          have k1 := blk_keep k0 hbr
          have ck1 := k1.cell
          by_cases hlt : k < p.its.length
          · obtain ⟨x, hxk⟩ := some_of_lt hlt
            obtain ⟨b1, off, rfl, _, _, hx64, cn, cb⟩ := it_at h1 hxk
            have HX := Lib.hid hxk; clear hxk
            obtain ⟨q, hq⟩ := bool_is (itemP key x)
            have HQ := Lib.hid hq; clear hq
            have hcall := fun w => l3Right_any key p2 x hx64.2 w q HQ.out
            have HCALL := Lib.hid hcall; clear hcall
            have f0 : wr.cell? ⟨w.heap.size, 0, none⟩ = some (.int .i64 p.no) := ck1 0
            have f1 : wr.cell? ⟨w.heap.size, 1, none⟩ = some (.slice (some ⟨b1, off, none⟩) p.its.length c) := ck1 1
            clear k1 ck1 ck0 fk0
            cases q with
            | false =>
              have hbb : b = false := by
                rw [← Bool.not_eq_true, HBI.out]
                exact its_no HX.out fun h => by have := HQ.out.2 h; cases this
              have HBB := Lib.hid hbb; clear hbb
              go_wp2_with fail
              have past0 := past_cell f0
              have past1 := past_cell f1
              have past2 := past_cell cn
              have past3 := past_cell cb
              refine region_past (by kernel_rfl) (by kernel_rfl) ?_
              repeat (go_big_quiet_step (first | (go_at_call 163; refine past_call (HCALL.out _))))
              refine wpQuiet_nil ?_
              intro wq hw1
              have hq := past_out hw1
              clear hw1 past0 past1 past2 past3
              go_wp2_with fail
              go_ret
              exact ⟨ret_bool HBB.out.symm, below_below hbw0 (below_below hbr hq)⟩
            | true =>
              have hit := HQ.out.1 rfl
              have HIT := Lib.hid hit; clear hit
              rcases Nat.eq_zero_or_pos k with h0' | h0'
              · subst h0'
                simp only [Nat.zero_mul, Nat.add_zero] at cn cb
                have hnext := its_yes0 HX.out HIT.out
                have HK := Lib.hid hnext; clear hnext
                go_wp2_with fail
                have past0 := past_cell f0
                have past1 := past_cell f1
                have past2 := past_cell cn
                have past3 := past_cell cb
                refine region_past (by kernel_rfl) (by kernel_rfl) ?_
                repeat (go_big_quiet_step (first | (go_at_call 163; refine past_call (HCALL.out _))))
                refine wpQuiet_nil ?_
                intro wq hw1
                have hq := past_out hw1
                clear hw1 past0 past1 past2 past3
                go_wp2_with fail
                go_roundw
                case rel => first | exact ⟨1, by omega, by go_num, HK.out, below_below hbr hq⟩ | ((repeat apply Exists.intro); refine ⟨?_, rfl⟩; exact ⟨1, by omega, by go_num, HK.out, below_below hbr hq⟩)
                case measure => simp [intOf]; omega
              · obtain ⟨j, rfl⟩ : ∃ j, k = j + 1 := ⟨k - 1, by omega⟩
                have e1 : ((j + 1 : Nat) : Int) - 1 = (j : Int) := by omega
                obtain ⟨y, hyk⟩ := some_of_lt (l := p.its) (k := j) (by omega)
                obtain ⟨b2, off2, hbo, _, _, hy64, cn2, cb2⟩ := it_at h1 hyk
                simp only [Option.some.injEq, Addr.mk.injEq, and_true] at hbo
                obtain ⟨rfl, rfl⟩ := hbo
                have HY := Lib.hid hyk; clear hyk
                by_cases hyx : y.n < x.n
                · have u1 : decide (x.n ≤ y.n) = false := decide_eq_false (by omega)
                  have hnext := its_yes HN.out HY.out HX.out HIT.out hyx
                  have HK := Lib.hid hnext; clear hnext hyx
                  go_wp2_with fail
                  have past0 := past_cell f0
                  have past1 := past_cell f1
                  have past2 := past_cell cn
                  have past3 := past_cell cb
                  have past4 := past_cell cn2
                  refine region_past (by kernel_rfl) (by kernel_rfl) ?_
                  repeat (go_big_quiet_step (first | (go_at_call 163; refine past_call (HCALL.out _))))
                  refine wpQuiet_nil ?_
                  intro wq hw1
                  have hq := past_out hw1
                  clear hw1 past0 past1 past2 past3 past4
                  go_wp2_with fail
                  go_roundw
                  case rel => first | exact ⟨j + 1 + 1, by omega, by go_num, HK.out, below_below hbr hq⟩ | ((repeat apply Exists.intro); refine ⟨?_, rfl⟩; exact ⟨j + 1 + 1, by omega, by go_num, HK.out, below_below hbr hq⟩)
                  case measure => simp [intOf]; omega
                · have u1 : decide (x.n ≤ y.n) = true := decide_eq_true (by omega)
                  have hbb : b = false := by
                    rw [← Bool.not_eq_true, HBI.out]
                    exact its_no2 HY.out HX.out hyx
                  have HBB := Lib.hid hbb; clear hbb hyx
                  go_wp2_with fail
                  have past0 := past_cell f0
                  have past1 := past_cell f1
                  have past2 := past_cell cn
                  have past3 := past_cell cb
                  have past4 := past_cell cn2
                  refine region_past (by kernel_rfl) (by kernel_rfl) ?_
                  repeat (go_big_quiet_step (first | (go_at_call 163; refine past_call (HCALL.out _))))
                  refine wpQuiet_nil ?_
                  intro wq hw1
                  have hq := past_out hw1
                  clear hw1 past0 past1 past2 past3 past4
                  go_wp2_with fail
                  go_ret
                  exact ⟨ret_bool HBB.out.symm, below_below hbw0 (below_below hbr hq)⟩
          · obtain rfl : k = p.its.length := by omega
            have hbb : b = true := by
              have := HN.out
              rw [List.take_length] at this
              exact HBI.out.2 this
            have HBB := Lib.hid hbb; clear hbb
            go_wp2_with fail
            go_ret
            exact ⟨ret_bool HBB.out.symm, below_below hbw0 hbr⟩
      · have hbb : b = false := by rw [← Bool.not_eq_true, HB.out]; exact fun h => p3 h.2.2.1
        have HBB := Lib.hid hbb; clear hbb
        refine (l6In_no p.its.length 1 4 (by omega) w0).mono ?_
        rintro e w1 ⟨rfl, rfl⟩
        go_wp2_with fail
        go_ret
        exact ⟨ret_bool HBB.out.symm, hbw0⟩
    · have hbb : b = false := by rw [← Bool.not_eq_true, HB.out]; exact fun h => p2 h.2.1
      have HBB := Lib.hid hbb; clear hbb
      refine (l2Key_any key w0 false (by simp only [Bool.false_eq_true, false_iff]; exact p2)).mono ?_
      rintro e w1 ⟨rfl, rfl⟩
      go_wp2_with fail
      go_ret
      exact ⟨ret_bool HBB.out.symm, hbw0⟩
  · have hbb : b = false := by rw [← Bool.not_eq_true, HB.out]; exact fun h => p1 h.1
    have HBB := Lib.hid hbb; clear hbb
    refine (l6In_no p.no 1 99 p1 w0).mono ?_
    rintro e w1 ⟨rfl, rfl⟩
    go_wp2_with fail
    go_ret
    exact ⟨ret_bool HBB.out.symm, hbw0⟩
end Go.Proofs.Ytanppokbjladfaa
