/- DrT, DrTr. -/
import Derived.Test.YtpdkgpbfmpekgaaGT
import Derived.Laws.BytesString



/- Draws of paths, texts and trees. -/
namespace Go.Proofs.Ytpdkgpbfmpekgaa
open Go.RowKit

set_option maxHeartbeats 2000000 in
theorem l91Path_any (l : List Int) (g p lo hi : Nat) (w : World) (hr : Rd w lo hi g l p) (hp : p ≤ 100000) :
    Calls Try.prog 28 #[.pointer (some ⟨g, 0, none⟩)] w (ShortPost w lo hi g l p) := by
  go_enter Try.func28, Try.ntmps28
  go_wp2_with fail
  refine (pick_any _ _ _ _ _ _ 40 hr (by omega)).mono ?_
  rintro e w2 ⟨m, rfl, ⟨_, hm⟩, rd2, hc2⟩
  clear hm
  by_cases h0 : m = 0
  · have t1 : (m == 0) = true := beq_iff_eq.2 h0
    clear h0
    go_wp2_with fail
    have rl : RStrs (w2.alloc (.cells #[.string ⟨#[]⟩, .string ⟨#[102]⟩, .string ⟨#[97, 47]⟩, .string ⟨#[97, 98]⟩, .string ⟨#[97, 47, 98, 47, 99]⟩, .string ⟨#[47, 97]⟩] 9)) w2.heap.size (w2.alloc (.cells #[.string ⟨#[]⟩, .string ⟨#[102]⟩, .string ⟨#[97, 47]⟩, .string ⟨#[97, 98]⟩, .string ⟨#[97, 47, 98, 47, 99]⟩, .string ⟨#[47, 97]⟩] 9)).heap.size [⟨#[]⟩, ⟨#[102]⟩, ⟨#[97, 47]⟩, ⟨#[97, 98]⟩, ⟨#[97, 47, 98, 47, 99]⟩, ⟨#[47, 97]⟩] [.slice (some ⟨w2.heap.size, 0, none⟩) 6 6] :=
      (OwnF.deep (F := FStr) (own_blk (F := FStr) (Blk.new w2 9 #[.string ⟨#[]⟩, .string ⟨#[102]⟩, .string ⟨#[97, 47]⟩, .string ⟨#[97, 98]⟩, .string ⟨#[97, 47, 98, 47, 99]⟩, .string ⟨#[47, 97]⟩]) rfl (Nat.le_refl _) rfl (by simp [maxLen])) (short_good (by decide)) w2.heap.size).sl (Nat.le_refl _)
    have rd3 := (rd2).alloc (.cells #[.string ⟨#[]⟩, .string ⟨#[102]⟩, .string ⟨#[97, 47]⟩, .string ⟨#[97, 98]⟩, .string ⟨#[97, 47, 98, 47, 99]⟩, .string ⟨#[47, 97]⟩] 9)
    have ch3 := (hc2).alloc (.cells #[.string ⟨#[]⟩, .string ⟨#[102]⟩, .string ⟨#[97, 47]⟩, .string ⟨#[97, 98]⟩, .string ⟨#[97, 47, 98, 47, 99]⟩, .string ⟨#[47, 97]⟩] 9)
    generalize (w2).alloc (.cells #[.string ⟨#[]⟩, .string ⟨#[102]⟩, .string ⟨#[97, 47]⟩, .string ⟨#[97, 98]⟩, .string ⟨#[97, 47, 98, 47, 99]⟩, .string ⟨#[47, 97]⟩] 9) = w3 at *
    refine (of_any _ (by simp) _ _ _ _ _ _ _ _ w3 rd3 (by omega) rl).mono ?_
    rintro e v3 ⟨s3, hs3, rfl, rs3, hc3⟩
    have hz3 : (s3).size ≤ 9 := short9 (by decide) s3 hs3
    replace ch3 := (ch3).trans hc3 fun i _ e => e
    clear hs3 rl
    go_wp2_with fail
    go_ret
    exact ⟨s3, _, rfl, hz3, rs3, by omega, ch3⟩
  · have t1 : (m == 0) = false := beq_eq_false_iff_ne.2 h0
    clear h0
    go_wp2_with fail
    have rl : RStrs (w2.alloc (.cells #[.string ⟨#[97]⟩, .string ⟨#[98]⟩, .string ⟨#[99, 47, 97]⟩, .string ⟨#[99, 47, 98]⟩, .string ⟨#[100, 47, 97]⟩, .string ⟨#[101]⟩, .string ⟨#[97, 47, 98]⟩, .string ⟨#[100]⟩] 9)) w2.heap.size (w2.alloc (.cells #[.string ⟨#[97]⟩, .string ⟨#[98]⟩, .string ⟨#[99, 47, 97]⟩, .string ⟨#[99, 47, 98]⟩, .string ⟨#[100, 47, 97]⟩, .string ⟨#[101]⟩, .string ⟨#[97, 47, 98]⟩, .string ⟨#[100]⟩] 9)).heap.size [⟨#[97]⟩, ⟨#[98]⟩, ⟨#[99, 47, 97]⟩, ⟨#[99, 47, 98]⟩, ⟨#[100, 47, 97]⟩, ⟨#[101]⟩, ⟨#[97, 47, 98]⟩, ⟨#[100]⟩] [.slice (some ⟨w2.heap.size, 0, none⟩) 8 8] :=
      (OwnF.deep (F := FStr) (own_blk (F := FStr) (Blk.new w2 9 #[.string ⟨#[97]⟩, .string ⟨#[98]⟩, .string ⟨#[99, 47, 97]⟩, .string ⟨#[99, 47, 98]⟩, .string ⟨#[100, 47, 97]⟩, .string ⟨#[101]⟩, .string ⟨#[97, 47, 98]⟩, .string ⟨#[100]⟩]) rfl (Nat.le_refl _) rfl (by simp [maxLen])) (short_good (by decide)) w2.heap.size).sl (Nat.le_refl _)
    have rd3 := (rd2).alloc (.cells #[.string ⟨#[97]⟩, .string ⟨#[98]⟩, .string ⟨#[99, 47, 97]⟩, .string ⟨#[99, 47, 98]⟩, .string ⟨#[100, 47, 97]⟩, .string ⟨#[101]⟩, .string ⟨#[97, 47, 98]⟩, .string ⟨#[100]⟩] 9)
    have ch3 := (hc2).alloc (.cells #[.string ⟨#[97]⟩, .string ⟨#[98]⟩, .string ⟨#[99, 47, 97]⟩, .string ⟨#[99, 47, 98]⟩, .string ⟨#[100, 47, 97]⟩, .string ⟨#[101]⟩, .string ⟨#[97, 47, 98]⟩, .string ⟨#[100]⟩] 9)
    generalize (w2).alloc (.cells #[.string ⟨#[97]⟩, .string ⟨#[98]⟩, .string ⟨#[99, 47, 97]⟩, .string ⟨#[99, 47, 98]⟩, .string ⟨#[100, 47, 97]⟩, .string ⟨#[101]⟩, .string ⟨#[97, 47, 98]⟩, .string ⟨#[100]⟩] 9) = w3 at *
    refine (of_any _ (by simp) _ _ _ _ _ _ _ _ w3 rd3 (by omega) rl).mono ?_
    rintro e v3 ⟨s3, hs3, rfl, rs3, hc3⟩
    have hz3 : (s3).size ≤ 9 := short9 (by decide) s3 hs3
    replace ch3 := (ch3).trans hc3 fun i _ e => e
    clear hs3 rl
    go_wp2_with fail
    go_ret
    exact ⟨s3, _, rfl, hz3, rs3, by omega, ch3⟩
def TextPost (w : World) (lo hi g : Nat) (l : List Int) (p : Nat) (e : Ending) (w' : World) : Prop := ∃ s q, e = .returned (.string s) ∧ s.size ≤ 1000 ∧ Rd w' lo hi g l q ∧ q ≤ p + 30 ∧ Chg (fun b => b = g) w w'
theorem size_app (a b : ByteArray) : (a ++ b).size = a.size + b.size := by rw [← bs_len, bs_append, List.length_append, bs_len, bs_len]
theorem byte_str (w : World) (n : Int) : ∃ t : ByteArray, t.size = 1 ∧ Sem.run Try.prog (convert 22 9 (.slice (some ⟨w.heap.size, 0, none⟩) 1 1)) (w.alloc (.cells #[.int .u8 n] 5)) = .ok (.string t) (w.alloc (.cells #[.int .u8 n] 5)) := by
  refine ⟨([n].foldl (fun r n => r.push (UInt8.ofNat n.toNat)) ByteArray.empty), rfl, ?_⟩
  rw [run_convert_bytes_string _ _ _ 5 _ _ _ Try.underlying22 Try.underlying5 Try.underlying9]
  refine run_bytesToString _ _ 1 1 [n] ?_
  have hk := (Blk.new w 5 #[.int .u8 n]).cell 0
  refine run_loadCells_list (a := ⟨w.heap.size, 0, none⟩) (cs := [.int .u8 n]) (w := w.alloc (.cells #[.int .u8 n] 5)) (P := Try.prog) (fun j v hj => ?_)
  match j, hj with
  | 0, hj =>
    cases hj
    exact hk
set_option maxRecDepth 8000 in
set_option maxHeartbeats 4000000 in
theorem l91Text_any (l : List Int) (g p lo hi : Nat) (w : World) (hr : Rd w lo hi g l p) (hp : p ≤ 100000) :
    Calls Try.prog 29 #[.pointer (some ⟨g, 0, none⟩)] w (TextPost w lo hi g l p) := by
  go_enter Try.func29, Try.ntmps29
  go_wp2_with fail
  refine (pick_any _ _ _ _ _ _ 5 hr (by omega)).mono ?_
  rintro e w2 ⟨m, rfl, ⟨_, hm⟩, rd2, hc2⟩
  have hm2 := hm (by omega)
  obtain ⟨mm, rfl⟩ := Int.eq_ofNat_of_zero_le (show 0 ≤ m by omega)
  clear hm
  go_wp2_with fail
  go_loopw [3, 4] (fun tt jj wr => ∃ (j q : Nat) (x : ByteArray), j ≤ 4 ∧ jj = .int .i64 j ∧ tt = .string x ∧ x.size + 9 * j ≤ 36 ∧ Rd wr lo hi g l q ∧ q + j ≤ p + 5 ∧ Chg (fun b => b = g) w wr) (fun _ jj _ => (intOf jj).toNat)
  case atStart => exact ⟨mm, _, ⟨#[]⟩, by omega, rfl, rfl, by show 0 + _ ≤ _; omega, rd2, by omega, hc2⟩
  case round =>
    clear rd2 hc2
    obtain ⟨j, q, x, hj, rfl, rfl, hx, rd, ch⟩ := hrel
    obtain ⟨hqj, ch⟩ := ch
    by_cases h0 : j = 0
    · subst h0
      go_wp2_with fail
      refine (pick_any _ _ _ _ _ _ 4 rd (by omega)).mono ?_
      rintro e w3 ⟨m2, rfl, ⟨_, hm3⟩, rd3, hc3⟩
      clear hm3
      have hc3' := ch.trans hc3 fun i _ e => e
      have hx36 : x.size ≤ 60 := by omega
      have hx37 : x.size ≤ 36 := by omega
      clear rd hc3 hx
      by_cases h1 : m2 = 0
      · have t1 : (m2 == 0) = true := beq_iff_eq.2 h1
        clear h1
        go_wp2_with fail
        refine (pick_any _ _ _ _ _ _ 12 rd3 (by omega)).mono ?_
        rintro e w5 ⟨m5, rfl, ⟨_, hm5⟩, rd5, hc5⟩
        have hm6 := hm5 (by omega)
        obtain ⟨n5, rfl⟩ := Int.eq_ofNat_of_zero_le (show 0 ≤ m5 by omega)
        have hc5' := hc3'.trans hc5 fun i _ e => e
        clear hm5 hc5 hc3' rd3
        go_wp2_with fail
        go_loopw [3, 5] (fun tt jj wr => ∃ (j q2 : Nat) (y : ByteArray), j ≤ 11 ∧ jj = .int .i64 j ∧ tt = .string y ∧ y.size + j ≤ 47 ∧ Rd wr lo hi g l q2 ∧ q2 + j ≤ p + 18 ∧ Chg (fun b => b = g) w wr) (fun _ jj _ => (intOf jj).toNat)
        case atStart => exact ⟨n5, _, x, by omega, rfl, rfl, by omega, rd5, by omega, hc5'⟩
        case round =>
          clear rd5 hc5'
          obtain ⟨j, q2, y, hj2, rfl, rfl, hy, rd6, hq2, ch6⟩ := hrel
          by_cases hj0 : j = 0
          · subst hj0
            have hy60 : y.size ≤ 60 := by omega
            clear hy
            have hq40 : q2 ≤ p + 20 := by omega
            by_cases hbig : 40 < (y).size
            · have t4 : decide ((40 : Int) < ((y).size : Int)) = true := decide_eq_true (by omega)
              have g2 : (40 : Int) ≤ ((y).size : Int) := by omega
              obtain ⟨z, hz, hzs⟩ : ∃ z, z = (y).extract 0 40 ∧ z.size = 40 := ⟨_, rfl, by rw [ext_size _ (by omega)]⟩
              have HZ := Lib.hid hz
              go_wp2_with fail
              rw [← HZ.out]
              clear hz HZ
              refine (pick_any _ _ _ _ _ _ 60 rd6 (by omega)).mono ?_
              rintro e w4 ⟨m4, rfl, ⟨_, hm4⟩, rd4, hc4⟩
              have hc4' := (ch6).trans hc4 fun i _ e => e
              clear hm4 hc4
              by_cases e0 : m4 = 0
              · have t5 : (m4 == 0) = true := beq_iff_eq.2 e0
                clear e0
                go_wp2_with fail
                go_ret
                exact ⟨_, _, rfl, by rw [size_app]; have : (⟨#[65]⟩ : ByteArray).size = 1 := rfl; omega, rd4, by omega, hc4'⟩
              · have t5 : (m4 == 0) = false := beq_eq_false_iff_ne.2 e0
                by_cases e1 : m4 = 1
                · have t6 : (m4 == 1) = true := beq_iff_eq.2 e1
                  clear e0 e1
                  go_wp2_with fail
                  refine (l6Many_any ⟨#[97, 98, 99, 100, 101]⟩ 9 (by decide) (by decide) (by decide) w4).mono ?_
                  rintro e w5 ⟨⟨t, rfl, ht⟩, rfl⟩
                  go_wp2_with fail
                  go_ret
                  exact ⟨t, _, rfl, by omega, rd4, by omega, hc4'⟩
                · have t6 : (m4 == 1) = false := beq_eq_false_iff_ne.2 e1
                  clear e0 e1
                  go_wp2_with fail
                  go_ret
                  exact ⟨_, _, rfl, by omega, rd4, by omega, hc4'⟩
            · have t4 : decide ((40 : Int) < ((y).size : Int)) = false := decide_eq_false (by omega)
              go_wp2_with fail
              refine (pick_any _ _ _ _ _ _ 60 rd6 (by omega)).mono ?_
              rintro e w4 ⟨m4, rfl, ⟨_, hm4⟩, rd4, hc4⟩
              have hc4' := (ch6).trans hc4 fun i _ e => e
              clear hm4 hc4
              by_cases e0 : m4 = 0
              · have t5 : (m4 == 0) = true := beq_iff_eq.2 e0
                clear e0
                go_wp2_with fail
                go_ret
                exact ⟨_, _, rfl, by rw [size_app]; have : (⟨#[65]⟩ : ByteArray).size = 1 := rfl; omega, rd4, by omega, hc4'⟩
              · have t5 : (m4 == 0) = false := beq_eq_false_iff_ne.2 e0
                by_cases e1 : m4 = 1
                · have t6 : (m4 == 1) = true := beq_iff_eq.2 e1
                  clear e0 e1
                  go_wp2_with fail
                  refine (l6Many_any ⟨#[97, 98, 99, 100, 101]⟩ 9 (by decide) (by decide) (by decide) w4).mono ?_
                  rintro e w5 ⟨⟨t, rfl, ht⟩, rfl⟩
                  go_wp2_with fail
                  go_ret
                  exact ⟨t, _, rfl, by omega, rd4, by omega, hc4'⟩
                · have t6 : (m4 == 1) = false := beq_eq_false_iff_ne.2 e1
                  clear e0 e1
                  go_wp2_with fail
                  go_ret
                  exact ⟨_, _, rfl, by omega, rd4, by omega, hc4'⟩
          · have t7 : decide ((0 : Int) < (j : Int)) = true := decide_eq_true (by omega)
            obtain ⟨j', hj'⟩ : ∃ y, y = j - 1 := ⟨_, rfl⟩
            have e7 : (j : Int) - 1 = ((j' : Nat) : Int) := by omega
            have hpos : 0 < (j : Int) := by omega
            have hj2 : j = j' + 1 := by omega
            clear hj' hj0
            have HJ := Lib.hid hj2
            clear hj2
            go_wp2_with fail
            refine (pick_any _ _ _ _ _ _ 26 rd6 (by omega)).mono ?_
            rintro e w7 ⟨m7, rfl, ⟨_, hm7⟩, rd7, hc7⟩
            have hm8 := hm7 (by omega)
            have hc7' := ch6.trans hc7 fun i _ e => e
            clear hm7 hc7 ch6 rd6
            have rd8 := rd7.alloc (.cells #[.int .u8 (97 + m7)] 5)
            have ch8 := hc7'.alloc (.cells #[.int .u8 (97 + m7)] 5)
            obtain ⟨t, ht, htc⟩ := byte_str w7 (97 + m7)
            go_wp2_with fail
            go_roundw
            case rel => exact ⟨j', _, y ++ t, by have := HJ.out; omega, rfl, rfl, by rw [size_app, ht]; have := HJ.out; omega, rd8, by have := HJ.out; omega, ch8⟩
            case measure => simp [intOf]; have := HJ.out; omega
      · have t1 : (m2 == 0) = false := beq_eq_false_iff_ne.2 h1
        clear h1
        have hq40 : q + 1 ≤ p + 20 := by omega
        by_cases hbig : 40 < (x).size
        · have t4 : decide ((40 : Int) < ((x).size : Int)) = true := decide_eq_true (by omega)
          have g2 : (40 : Int) ≤ ((x).size : Int) := by omega
          obtain ⟨z, hz, hzs⟩ : ∃ z, z = (x).extract 0 40 ∧ z.size = 40 := ⟨_, rfl, by rw [ext_size _ (by omega)]⟩
          have HZ := Lib.hid hz
          go_wp2_with fail
          rw [← HZ.out]
          clear hz HZ
          refine (pick_any _ _ _ _ _ _ 60 rd3 (by omega)).mono ?_
          rintro e w4 ⟨m4, rfl, ⟨_, hm4⟩, rd4, hc4⟩
          have hc4' := (hc3').trans hc4 fun i _ e => e
          clear hm4 hc4
          by_cases e0 : m4 = 0
          · have t5 : (m4 == 0) = true := beq_iff_eq.2 e0
            clear e0
            go_wp2_with fail
            go_ret
            exact ⟨_, _, rfl, by rw [size_app]; have : (⟨#[65]⟩ : ByteArray).size = 1 := rfl; omega, rd4, by omega, hc4'⟩
          · have t5 : (m4 == 0) = false := beq_eq_false_iff_ne.2 e0
            by_cases e1 : m4 = 1
            · have t6 : (m4 == 1) = true := beq_iff_eq.2 e1
              clear e0 e1
              go_wp2_with fail
              refine (l6Many_any ⟨#[97, 98, 99, 100, 101]⟩ 9 (by decide) (by decide) (by decide) w4).mono ?_
              rintro e w5 ⟨⟨t, rfl, ht⟩, rfl⟩
              go_wp2_with fail
              go_ret
              exact ⟨t, _, rfl, by omega, rd4, by omega, hc4'⟩
            · have t6 : (m4 == 1) = false := beq_eq_false_iff_ne.2 e1
              clear e0 e1
              go_wp2_with fail
              go_ret
              exact ⟨_, _, rfl, by omega, rd4, by omega, hc4'⟩
        · have t4 : decide ((40 : Int) < ((x).size : Int)) = false := decide_eq_false (by omega)
          go_wp2_with fail
          refine (pick_any _ _ _ _ _ _ 60 rd3 (by omega)).mono ?_
          rintro e w4 ⟨m4, rfl, ⟨_, hm4⟩, rd4, hc4⟩
          have hc4' := (hc3').trans hc4 fun i _ e => e
          clear hm4 hc4
          by_cases e0 : m4 = 0
          · have t5 : (m4 == 0) = true := beq_iff_eq.2 e0
            clear e0
            go_wp2_with fail
            go_ret
            exact ⟨_, _, rfl, by rw [size_app]; have : (⟨#[65]⟩ : ByteArray).size = 1 := rfl; omega, rd4, by omega, hc4'⟩
          · have t5 : (m4 == 0) = false := beq_eq_false_iff_ne.2 e0
            by_cases e1 : m4 = 1
            · have t6 : (m4 == 1) = true := beq_iff_eq.2 e1
              clear e0 e1
              go_wp2_with fail
              refine (l6Many_any ⟨#[97, 98, 99, 100, 101]⟩ 9 (by decide) (by decide) (by decide) w4).mono ?_
              rintro e w5 ⟨⟨t, rfl, ht⟩, rfl⟩
              go_wp2_with fail
              go_ret
              exact ⟨t, _, rfl, by omega, rd4, by omega, hc4'⟩
            · have t6 : (m4 == 1) = false := beq_eq_false_iff_ne.2 e1
              clear e0 e1
              go_wp2_with fail
              go_ret
              exact ⟨_, _, rfl, by omega, rd4, by omega, hc4'⟩
    · have t1 : decide ((0 : Int) < (j : Int)) = true := decide_eq_true (by omega)
      have hx1 : x.size ≤ 36 := by omega
      obtain ⟨j', hj'⟩ : ∃ y, y = j - 1 := ⟨_, rfl⟩
      have e1 : (j : Int) - 1 = ((j' : Nat) : Int) := by omega
      have hpos : 0 < (j : Int) := by omega
      have hj2 : j = j' + 1 := by omega
      clear hj' h0
      have HJ := Lib.hid hj2
      clear hj2
      go_wp2_with fail
      have rl : RStrs (wr.alloc (.cells #[.string ⟨#[97, 98, 99]⟩, .string ⟨#[104, 101, 108, 108, 111]⟩, .string ⟨#[119, 111, 114, 108, 100]⟩, .string ⟨#[97, 97, 97, 97]⟩, .string ⟨#[107, 101, 101, 112]⟩, .string ⟨#[122, 122]⟩, .string ⟨#[98, 97, 99, 107, 117, 112]⟩, .string ⟨#[113]⟩] 9)) wr.heap.size (wr.alloc (.cells #[.string ⟨#[97, 98, 99]⟩, .string ⟨#[104, 101, 108, 108, 111]⟩, .string ⟨#[119, 111, 114, 108, 100]⟩, .string ⟨#[97, 97, 97, 97]⟩, .string ⟨#[107, 101, 101, 112]⟩, .string ⟨#[122, 122]⟩, .string ⟨#[98, 97, 99, 107, 117, 112]⟩, .string ⟨#[113]⟩] 9)).heap.size [⟨#[97, 98, 99]⟩, ⟨#[104, 101, 108, 108, 111]⟩, ⟨#[119, 111, 114, 108, 100]⟩, ⟨#[97, 97, 97, 97]⟩, ⟨#[107, 101, 101, 112]⟩, ⟨#[122, 122]⟩, ⟨#[98, 97, 99, 107, 117, 112]⟩, ⟨#[113]⟩] [.slice (some ⟨wr.heap.size, 0, none⟩) 8 8] :=
        (OwnF.deep (F := FStr) (own_blk (F := FStr) (Blk.new wr 9 #[.string ⟨#[97, 98, 99]⟩, .string ⟨#[104, 101, 108, 108, 111]⟩, .string ⟨#[119, 111, 114, 108, 100]⟩, .string ⟨#[97, 97, 97, 97]⟩, .string ⟨#[107, 101, 101, 112]⟩, .string ⟨#[122, 122]⟩, .string ⟨#[98, 97, 99, 107, 117, 112]⟩, .string ⟨#[113]⟩]) rfl (Nat.le_refl _) rfl (by simp [maxLen])) (short_good (by decide)) wr.heap.size).sl (Nat.le_refl _)
      have rd3 := (rd).alloc (.cells #[.string ⟨#[97, 98, 99]⟩, .string ⟨#[104, 101, 108, 108, 111]⟩, .string ⟨#[119, 111, 114, 108, 100]⟩, .string ⟨#[97, 97, 97, 97]⟩, .string ⟨#[107, 101, 101, 112]⟩, .string ⟨#[122, 122]⟩, .string ⟨#[98, 97, 99, 107, 117, 112]⟩, .string ⟨#[113]⟩] 9)
      have ch3 := (ch).alloc (.cells #[.string ⟨#[97, 98, 99]⟩, .string ⟨#[104, 101, 108, 108, 111]⟩, .string ⟨#[119, 111, 114, 108, 100]⟩, .string ⟨#[97, 97, 97, 97]⟩, .string ⟨#[107, 101, 101, 112]⟩, .string ⟨#[122, 122]⟩, .string ⟨#[98, 97, 99, 107, 117, 112]⟩, .string ⟨#[113]⟩] 9)
      generalize (wr).alloc (.cells #[.string ⟨#[97, 98, 99]⟩, .string ⟨#[104, 101, 108, 108, 111]⟩, .string ⟨#[119, 111, 114, 108, 100]⟩, .string ⟨#[97, 97, 97, 97]⟩, .string ⟨#[107, 101, 101, 112]⟩, .string ⟨#[122, 122]⟩, .string ⟨#[98, 97, 99, 107, 117, 112]⟩, .string ⟨#[113]⟩] 9) = w3 at *
      refine (of_any _ (by simp) _ _ _ _ _ _ _ _ w3 rd3 (by omega) rl).mono ?_
      rintro e v3 ⟨s3, hs3, rfl, rs3, hc3⟩
      have hz3 : (s3).size ≤ 9 := short9 (by decide) s3 hs3
      replace ch3 := (ch3).trans hc3 fun i _ e => e
      clear hs3 rl
      go_wp2_with fail
      go_roundw
      case rel => exact ⟨j', _, x ++ s3, by have := HJ.out; omega, rfl, rfl, by rw [size_app]; have := HJ.out; omega, rs3, by have := HJ.out; omega, ch3⟩
      case measure => simp [intOf]; have := HJ.out; omega
end Go.Proofs.Ytpdkgpbfmpekgaa




/- Draw of a tree. -/
namespace Go.Proofs.Ytpdkgpbfmpekgaa
open Go.RowKit

def NodesPost (w : World) (lo hi g : Nat) (l : List Int) (p : Nat) (e : Ending) (w' : World) : Prop := ∃ v ys q, e = .returned v ∧ OwnF FNd 96 w' w.heap.size v ys ∧ (∀ y ∈ ys, FNd.good y) ∧ ys.length ≤ 7 ∧ Rd w' lo hi g l q ∧ q ≤ p + 300 ∧ Chg (fun b => b = g) w w'
set_option maxRecDepth 8000 in
set_option maxHeartbeats 4000000 in
theorem l91Tree_any (l : List Int) (g p lo hi : Nat) (w : World) (hr : Rd w lo hi g l p) (hp : p ≤ 50000) :
    Calls Try.prog 50 #[.pointer (some ⟨g, 0, none⟩)] w (NodesPost w lo hi g l p) := by
  have hrg := hr.lt
  go_enter Try.func50, Try.ntmps50
  go_wp2_with fail
  have rd0 := hr.alloc (.cells #[] 96)
  have ch0 := (Chg.refl (fun b => b = g) w).alloc (.cells #[] 96)
  have ho0 : OwnF FNd 96 (w.alloc (.cells #[] 96)) w.heap.size (.slice (some ⟨w.heap.size, 0, none⟩) 0 0) [] := (Lit0.new w 96 (Nat.le_refl _)).own 2
  generalize w.alloc (.cells #[] 96) = w0 at *
  refine (pick_any _ _ _ _ _ _ 6 rd0 (by omega)).mono ?_
  rintro e w1 ⟨m, rfl, ⟨_, hm⟩, rd1, hc1⟩
  have hm2 := hm (by omega)
  obtain ⟨mm, rfl⟩ := Int.eq_ofNat_of_zero_le (show 0 ≤ m by omega)
  have ho1 := ho0.chg hc1 fun b hb e => by have := (ho0.at_ hb).1; omega
  replace ch0 := ch0.trans hc1 fun i _ e => e
  clear hm rd0 hc1 ho0
  go_wp2_with fail
  go_loopw [3, 4] (fun tt jj wr => ∃ (j q : Nat) (ys : List Nd), j ≤ 5 ∧ jj = .int .i64 j ∧ OwnF FNd 96 wr w.heap.size tt ys ∧ Fine ys ∧ Rd wr lo hi g l q ∧ q + 40 * j ≤ p + 201 ∧ Chg (fun b => b = g) w wr) (fun _ jj _ => (intOf jj).toNat)
  case atStart => exact ⟨mm, _, [], by omega, rfl, ho1, ⟨fun y hy => (by cases hy), Nat.zero_le _⟩, rd1, by omega, ch0⟩
  case round =>
    clear ho1 rd1 ch0
    obtain ⟨j, q, ys, hj, rfl, ho, hf, rd, hq, ch⟩ := hrel
    obtain ⟨A, c, rfl⟩ := ho.form
    have HF := Lib.hid hf; clear hf
    have hzw := ch.size
    by_cases h0 : j = 0
    · subst h0
      have hg2 := Lib.hid (fine_good HF.out)
      have hl6 : ys.length ≤ 6 := HF.out.2
      go_wp2_with fail
      refine (pick_any _ _ _ _ _ _ 40 rd (by omega)).mono ?_
      rintro e w2 ⟨m2, rfl, ⟨_, hm3⟩, rd2, hc2⟩
      have ho2 := ho.chg hc2 fun b hb e => by have := (ho.at_ hb).1; omega
      have ch2 := ch.trans hc2 fun i _ e => e
      clear hm3 rd ho hc2 ch
      by_cases e0 : m2 = 0
      · have t5 : (m2 == 0) = true := beq_iff_eq.2 e0
        clear e0
        go_wp2_with fail
        refine (l91Path_any l g (q + 1) lo hi w2 rd2 (by omega)).mono ?_
        rintro e w3 ⟨s, q3, rfl, hs9, rd3, hq3, hc3⟩
        have ho3 := ho2.chg hc3 fun b hb e => by have := (ho2.at_ hb).1; omega
        have ch3 := ch2.trans hc3 fun i _ e => e
        have hw3 := ch3.size
        clear rd2 ho2 ch2
        go_wp2_with (at_builtin; refine app_flat (F := FNd) (v := .slice A ys.length c) rfl (.tmp 29) (.tmp 33) 67 rfl elem_nd ⟨s, ⟨#[97]⟩⟩ rfl ho3 rfl rfl (by omega) hw3 ?_; intro va wa oa cha ata; obtain ⟨Aa, ca, rfl⟩ := oa.form; simp only [List.length_append, List.length_cons, List.length_nil, Nat.zero_add] at oa)
        go_ret
        refine ⟨_, ys ++ [⟨s, ⟨#[97]⟩⟩], q3, rfl, by simpa using oa, fun y hy => ?_, by simp; omega, rd3.chg cha fun b hb e => ?_, by omega, ch3.trans cha fun b hb e => ?_⟩
        · rcases List.mem_append.1 hy with hy | hy
          · exact hg2.out y hy
          · rw [List.mem_singleton.1 hy]; exact ⟨by show s.size ≤ maxLen; unfold maxLen; omega, by show (⟨#[97]⟩ : ByteArray).size ≤ maxLen; decide⟩
        · have := (ho3.at_ e).1
          have := rd3.hi_
          omega
        · have := (ho3.at_ e).1
          omega
      · have t5 : (m2 == 0) = false := beq_eq_false_iff_ne.2 e0
        by_cases e1 : m2 = 1
        · have t6 : (m2 == 1) = true := beq_iff_eq.2 e1
          clear e0 e1
          by_cases hy0 : ys.length = 0
          · have t7 : decide (0 < ys.length) = false := decide_eq_false (by omega)
            clear hy0
            go_wp2_with fail
            go_ret
            exact ⟨_, ys, q + 1, rfl, ho2, hg2.out, by omega, rd2, by omega, ch2⟩
          · have t7 : decide (0 < ys.length) = true := decide_eq_true (by omega)
            have hpos : 0 < ys.length := by omega
            obtain ⟨y0, hyk⟩ := some_of_lt hpos
            obtain ⟨gg, c', e⟩ := OwnF.some_ ho2 hpos
            simp only [Value.slice.injEq] at e
            obtain ⟨rfl, -, rfl⟩ := e
            have hat := (ho2.at_ rfl).1
            have hc1 : w2.cell? ⟨gg, 1, none⟩ = some (.string y0.b) := by
              have := OwnF.cell ho2 (j := 1) hyk rfl
              simpa using this
            have hf1 := OwnF.frozen ho2 rfl 1
            have hput := OwnF.put ho2 (j := 1) (u := .string ⟨#[65]⟩) (y := ⟨y0.p, ⟨#[65]⟩⟩) hyk (by decide) rfl
            rw [Nat.zero_mul, Nat.zero_add] at hput
            have HP := Lib.hid hput
            have hcs : Chg (fun b => b = gg) w2 (w2.setCell ⟨gg, 1, none⟩ (.string ⟨#[65]⟩)) := (Chg.refl (fun b => b = gg) w2).setCell (p := ⟨gg, 1, none⟩) (.inl rfl) _
            have HC := Lib.hid hcs
            have HYK := Lib.hid hyk
            clear hput hcs hyk hy0
            go_wp2_with fail
            go_ret
            refine ⟨_, ys.set 0 ⟨y0.p, ⟨#[65]⟩⟩, q + 1, rfl, HP.out, fun y hy => ?_, by rw [List.length_set]; omega, rd2.chg HC.out fun b hb e => ?_, by omega, ch2.trans HC.out fun b hb e => ?_⟩
            · rcases List.mem_or_eq_of_mem_set hy with h1 | rfl
              · exact hg2.out y h1
              · exact ⟨(hg2.out y0 (List.mem_of_getElem? HYK.out)).1, by show (⟨#[65]⟩ : ByteArray).size ≤ maxLen; decide⟩
            · have := rd2.hi_
              omega
            · omega
        · have t6 : (m2 == 1) = false := beq_eq_false_iff_ne.2 e1
          clear e0 e1
          go_wp2_with fail
          go_ret
          exact ⟨_, ys, q + 1, rfl, ho2, hg2.out, by omega, rd2, by omega, ch2⟩
    · have hpos : 0 < (j : Int) := by omega
      obtain ⟨j', hj'⟩ : ∃ y, y = j - 1 := ⟨_, rfl⟩
      have e1 : (j : Int) - 1 = ((j' : Nat) : Int) := by omega
      have hj2 : j = j' + 1 := by omega
      have HJ := Lib.hid hj2
      clear hj' h0 hj2
      go_wp2_with fail
      refine (l91Path_any l g q lo hi wr rd (by omega)).mono ?_
      rintro e w2 ⟨s, q2, rfl, hs9, rd2, hq2, hc2⟩
      have ho2 := ho.chg hc2 fun b hb e => by have := (ho.at_ hb).1; omega
      have ch2 := ch.trans hc2 fun i _ e => e
      clear rd ho hc2 ch
      go_wp2_with fail
      refine (l91Text_any l g q2 lo hi w2 rd2 (by omega)).mono ?_
      rintro e w3 ⟨t, q3, rfl, ht, rd3, hq3, hc3⟩
      have ho3 := ho2.chg hc3 fun b hb e => by have := (ho2.at_ hb).1; omega
      have ch3 := ch2.trans hc3 fun i _ e => e
      have r3 := (ho3.deep (fine_good HF.out) w.heap.size).sl (Nat.le_refl _)
      clear rd2 ho2 hc3 ch2
      go_wp2_with fail
      refine (TreePut_any ys s t (by unfold maxLen; omega) (by unfold maxLen; omega) _ w3 w.heap.size w3.heap.size r3 (Nat.le_refl _) (by have := HF.out.2; omega)).mono ?_
      rintro e w4 ⟨v4, zs, b4q, rfl, o4, hfz, b4⟩
      have hw3 := ch3.size
      have ho4 := o4.base hw3
      have ho3' := ho3.below b4
      have rd4 := rd3.chg (Chg.of_below (S := fun _ => False) b4) fun _ _ h => h
      have ch4 := ch3.trans (Chg.of_below (S := fun _ => False) b4) fun _ _ h => h.elim
      have HFZ := Lib.hid hfz
      obtain ⟨A4, c4, rfl⟩ := o4.form
      clear hfz rd3 ch3 ho3 o4 r3
      cases b4q
      · go_wp2_with fail
        go_roundw
        case rel => exact ⟨j', q3, ys, by have := HJ.out; omega, rfl, ho3', HF.out, rd4, by have := HJ.out; omega, ch4⟩
        case measure => simp [intOf]; have := HJ.out; omega
      · go_wp2_with fail
        go_roundw
        case rel => exact ⟨j', q3, zs, by have := HJ.out; omega, rfl, ho4, HFZ.out, rd4, by have := HJ.out; omega, ch4⟩
        case measure => simp [intOf]; have := HJ.out; omega
def FinePost (w : World) (lo hi g : Nat) (l : List Int) (p : Nat) (e : Ending) (w' : World) : Prop := ∃ v ys q, e = .returned v ∧ OwnF FNd 96 w' w.heap.size v ys ∧ Fine ys ∧ Rd w' lo hi g l q ∧ q ≤ p + 300 ∧ Chg (fun b => b = g) w w'
set_option maxHeartbeats 2000000 in
theorem l91Fine_any (l : List Int) (g p lo hi : Nat) (w : World) (hr : Rd w lo hi g l p) (hp : p ≤ 50000) :
    Calls Try.prog 24 #[.pointer (some ⟨g, 0, none⟩)] w (FinePost w lo hi g l p) := by
  go_enter Try.func24, Try.ntmps24
  go_wp2_with fail
  refine (l91Tree_any l g p lo hi w hr hp).mono ?_
  rintro e w1 ⟨v1, ys, q, rfl, o1, hgy, hyl, rd1, hq, ch1⟩
  obtain ⟨A, c, rfl⟩ := o1.form
  have z1 := ch1.size
  have r1 := (o1.deep hgy w.heap.size).sl (Nat.le_refl _)
  clear hgy
  go_wp2_with fail
  refine (TreeOk_any ys _ w1 w.heap.size w1.heap.size r1 (Nat.le_refl _)).mono ?_
  rintro e w2 ⟨⟨rfl, hf⟩ | rfl, b2⟩
  · have HF := Lib.hid hf
    have o2 := o1.below b2
    have rd2 := rd1.chg (Chg.of_below (S := fun _ => False) b2) fun _ _ h => h
    have ch2 := ch1.trans (Chg.of_below (S := fun _ => False) b2) fun _ _ h => h.elim
    clear hf
    go_wp2_with fail
    go_ret
    exact ⟨_, ys, q, rfl, o2, HF.out, rd2, hq, ch2⟩
  · have rd2 := rd1.chg (Chg.of_below (S := fun _ => False) b2) fun _ _ h => h
    have ch2 := ch1.trans (Chg.of_below (S := fun _ => False) b2) fun _ _ h => h.elim
    go_wp2_with fail
    go_ret
    exact ⟨_, [⟨⟨#[97]⟩, ⟨#[104, 101, 108, 108, 111]⟩⟩], q, rfl, own_blk (F := FNd) (xs := [⟨⟨#[97]⟩, ⟨#[104, 101, 108, 108, 111]⟩⟩]) (Blk.new w2 96 #[.string ⟨#[97]⟩, .string ⟨#[104, 101, 108, 108, 111]⟩]) rfl ch2.size rfl (by simp [maxLen]), ⟨fun y hy => by rw [List.mem_singleton.1 hy]; exact ⟨by decide, by decide⟩, by decide⟩, rd2.alloc _, hq, ch2.alloc _⟩
end Go.Proofs.Ytpdkgpbfmpekgaa

