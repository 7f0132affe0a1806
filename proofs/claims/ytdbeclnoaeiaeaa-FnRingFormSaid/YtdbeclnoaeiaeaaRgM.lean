


/- How many keys a machine has. -/
import Derived.Test.YtdbeclnoaeiaeaaRgK
namespace Go.Proofs.Ytdbeclnoaeiaeaa
open Go.RowKit

/-- Keys of the epochs 1 to n that a machine has. -/
def cntIs (r : Rg) (m : Int) : Nat → Nat → Prop
  | 0, c => c = 0
  | n + 1, c => ∃ c', cntIs r m n c' ∧ ((keyP r m (n + 1) ∧ c = c' + 1) ∨ (¬ keyP r m (n + 1) ∧ c = c'))
theorem cnt_total (r : Rg) (m : Int) : ∀ n, ∃ c, cntIs r m n c
  | 0 => ⟨0, rfl⟩
  | n + 1 => by
    obtain ⟨c, hc⟩ := cnt_total r m n
    by_cases h : keyP r m (n + 1)
    · exact ⟨c + 1, c, hc, .inl ⟨h, rfl⟩⟩
    · exact ⟨c, c, hc, .inr ⟨h, rfl⟩⟩
theorem cnt_one {r : Rg} {m : Int} : ∀ {n c d : Nat}, cntIs r m n c → cntIs r m n d → c = d
  | 0, _, _, hc, hd => by
    have h1 : _ = 0 := hc
    have h2 : _ = 0 := hd
    omega
  | n + 1, _, _, ⟨c', hc', hc⟩, ⟨d', hd', hd⟩ => by
    have := cnt_one hc' hd'
    rcases hc with ⟨h1, h2⟩ | ⟨h1, h2⟩ <;> rcases hd with ⟨h3, h4⟩ | ⟨h3, h4⟩
    · omega
    · exact absurd h1 h3
    · exact absurd h3 h1
    · omega
theorem cnt_le {r : Rg} {m : Int} : ∀ {n c : Nat}, cntIs r m n c → c ≤ n
  | 0, _, hc => by
    have h1 : _ = 0 := hc
    omega
  | n + 1, _, ⟨c', hc', hc⟩ => by
    have := cnt_le hc'
    rcases hc with ⟨_, h2⟩ | ⟨_, h2⟩ <;> omega
/-- What RingMany answers. -/
def RMany (r : Rg) (m : Int) (n : Nat) : Prop := (ringP r ∧ cntIs r m r.keys.length n) ∨ (¬ ringP r ∧ n = 0)
theorem RMany_total (r : Rg) (m : Int) : ∃ n, RMany r m n := by
  by_cases h : ringP r
  · obtain ⟨c, hc⟩ := cnt_total r m r.keys.length
    exact ⟨c, .inl ⟨h, hc⟩⟩
  · exact ⟨0, .inr ⟨h, rfl⟩⟩

set_option maxHeartbeats 1000000 in
theorem specRingMany_any (r : Rg) (m : Int) (va vb : Value) (w : World) (lo hi : Nat) (hhi : hi ≤ w.heap.size) (ha : RSl RInt 1 w lo hi r.keys [va]) (h : RSl RGr 3 w lo hi r.grs [vb]) (n : Nat) (hn : RMany r m n) :
    Calls Try.prog 28 #[.agg #[va, vb], .int .i64 m] w fun e w' => e = .returned (.int .i64 n) ∧ Below w.heap.size w w' := by
  have HM := Lib.hid hn; clear hn
  obtain ⟨A, c, rfl⟩ := ha.form
  obtain ⟨B, d, rfl⟩ := h.form
  obtain ⟨_, hc, hx⟩ := ha.len_
  obtain ⟨_, hd, hy⟩ := h.len_
  unfold maxLen at hx hy
  have hbw := below_alloc w (.cells #[.slice A r.keys.length c, .slice B r.grs.length d] 30)
  have f1 := sl_keep RInt.loc ha hbw hhi
  have g1 := sl_keep RGr.loc h hbw hhi
  have c0 := new_cell w #[.slice A r.keys.length c, .slice B r.grs.length d] 30 0 rfl
  have c1 := new_cell w #[.slice A r.keys.length c, .slice B r.grs.length d] 30 1 rfl
  have hhi0 : hi ≤ (w.alloc (.cells #[.slice A r.keys.length c, .slice B r.grs.length d] 30)).heap.size := Nat.le_trans hhi hbw.size
  go_enter Try.func28, Try.ntmps28
  by_cases p1 : ringP r
  · have hcnt : cntIs r m r.keys.length n := by
      rcases HM.out with ⟨_, h⟩ | ⟨h, _⟩
      · exact h
      · exact absurd p1 h
    have HC := Lib.hid hcnt; clear hcnt
    have H1 := Lib.hid p1
    have hlen := p1.2.2
    clear p1
    go_wp2_with fail
    generalize w.alloc (.cells #[.slice A r.keys.length c, .slice B r.grs.length d] 30) = w0 at *
    refine (specRingOk_any r _ _ _ lo hi hhi0 f1 g1 true (by simp only [true_iff]; exact H1.out)).mono ?_
    rintro e1 w1 ⟨rfl, hb1⟩
    replace c0 := cell_keep hb1 c0
    replace c1 := cell_keep hb1 c1
    replace f1 := sl_keep RInt.loc f1 hb1 hhi0
    replace g1 := sl_keep RGr.loc g1 hb1 hhi0
    replace hbw := hbw.trans (hb1.mono hbw.size)
    replace hhi0 := Nat.le_trans hhi0 hb1.size
    go_wp2_with fail
    go_loopw [5, 6] (fun cc i wr => ∃ (j : Nat) (cj : Nat), j ≤ r.keys.length ∧ i = .int .i64 ((j : Int) + 1) ∧ cc = .int .i64 cj ∧ cntIs r m j cj ∧ Below w1.heap.size w1 wr) (fun _ i _ => r.keys.length + 1 - (intOf i).toNat)
    case atStart => exact ⟨0, 0, Nat.zero_le _, rfl, rfl, rfl, Below.refl _ _⟩
    case round =>
      obtain ⟨j, cj, hj, rfl, rfl, hn, hbr⟩ := hrel
      have hle := cnt_le hn
      have HN := Lib.hid hn; clear hn
      replace c0 := cell_keep hbr c0
      replace c1 := cell_keep hbr c1
      replace f1 := sl_keep RInt.loc f1 hbr hhi0
      replace g1 := sl_keep RGr.loc g1 hbr hhi0
      replace hbw := hbw.trans (hbr.mono hbw.size)
      replace hhi0 := Nat.le_trans hhi0 hbr.size
      by_cases hlt : j < r.keys.length
      · by_cases q : keyP r m (j + 1)
        · have hnext : cntIs r m (j + 1) (cj + 1) := ⟨cj, HN.out, .inl ⟨q, rfl⟩⟩
          have HNX := Lib.hid hnext; clear hnext
          have HQ := Lib.hid q; clear q
          go_wp2_with fail
          refine (l33Key_any r m _ _ _ _ lo hi hhi0 f1 g1 _ H1.out.2.1 true (by simp only [true_iff]; exact HQ.out)).mono ?_
          rintro e w3 ⟨rfl, hb3⟩
          go_wp2_with fail
          go_roundw
          case rel => first | exact ⟨j + 1, cj + 1, by omega, by go_num, by go_num, HNX.out, hbr.trans (hb3.mono hbr.size)⟩ | ((repeat apply Exists.intro); refine ⟨?_, rfl⟩; exact ⟨j + 1, cj + 1, by omega, by go_num, by go_num, HNX.out, hbr.trans (hb3.mono hbr.size)⟩)
          case measure => simp [intOf]; omega
        · have hnext : cntIs r m (j + 1) cj := ⟨cj, HN.out, .inr ⟨q, rfl⟩⟩
          have HNX := Lib.hid hnext; clear hnext
          have HQ := Lib.hid q; clear q
          go_wp2_with fail
          refine (l33Key_any r m _ _ _ _ lo hi hhi0 f1 g1 _ H1.out.2.1 false (by simp only [Bool.false_eq_true, false_iff]; exact HQ.out)).mono ?_
          rintro e w3 ⟨rfl, hb3⟩
          go_wp2_with fail
          go_roundw
          case rel => first | exact ⟨j + 1, cj, by omega, by go_num, rfl, HNX.out, hbr.trans (hb3.mono hbr.size)⟩ | ((repeat apply Exists.intro); refine ⟨?_, rfl⟩; exact ⟨j + 1, cj, by omega, by go_num, rfl, HNX.out, hbr.trans (hb3.mono hbr.size)⟩)
          case measure => simp [intOf]; omega
      · obtain rfl : j = r.keys.length := by omega
        have hcn := cnt_one HN.out HC.out
        subst hcn
        go_wp2_with fail
        go_ret
        exact ⟨rfl, hbw⟩
  · have hn0 : n = 0 := by
      rcases HM.out with ⟨h, _⟩ | ⟨_, h⟩
      · exact absurd h p1
      · exact h
    subst hn0
    have H1 := Lib.hid p1; clear p1
    go_wp2_with fail
    generalize w.alloc (.cells #[.slice A r.keys.length c, .slice B r.grs.length d] 30) = w0 at *
    refine (specRingOk_any r _ _ _ lo hi hhi0 f1 g1 false (by simp only [Bool.false_eq_true, false_iff]; exact H1.out)).mono ?_
    rintro e1 w1 ⟨rfl, hb1⟩
    replace c0 := cell_keep hb1 c0
    replace c1 := cell_keep hb1 c1
    replace f1 := sl_keep RInt.loc f1 hb1 hhi0
    replace g1 := sl_keep RGr.loc g1 hb1 hhi0
    replace hbw := hbw.trans (hb1.mono hbw.size)
    replace hhi0 := Nat.le_trans hhi0 hb1.size
    go_wp2_with fail
    go_ret
    exact ⟨rfl, hbw⟩

/-- How many of the first n epochs impl counts. -/
def implCnt (r : Rg) (m : Int) (j c : Nat) : Prop := (ringP r → cntIs r m (min j r.keys.length) c) ∧ (¬ ringP r → c = 0)
theorem implCnt_yes {r : Rg} {m : Int} {j c : Nat} (h : implCnt r m j c) (hy : ringP r ∧ (1 ≤ (j : Int) + 1 ∧ (j : Int) + 1 ≤ r.keys.length) ∧ keyP r m ((j : Int) + 1)) : implCnt r m (j + 1) (c + 1) := by
  refine ⟨fun hp => ?_, fun hn => absurd hy.1 hn⟩
  have h1 := h.1 hp
  have h2 := hy.2.1.2
  rw [show min j r.keys.length = j by omega] at h1
  rw [show min (j + 1) r.keys.length = j + 1 by omega]
  exact ⟨c, h1, .inl ⟨hy.2.2, rfl⟩⟩
theorem implCnt_no {r : Rg} {m : Int} {j c : Nat} (h : implCnt r m j c) (hy : ¬ (ringP r ∧ (1 ≤ (j : Int) + 1 ∧ (j : Int) + 1 ≤ r.keys.length) ∧ keyP r m ((j : Int) + 1))) : implCnt r m (j + 1) c := by
  refine ⟨fun hp => ?_, h.2⟩
  have h1 := h.1 hp
  by_cases hl : (j : Int) + 1 ≤ r.keys.length
  · rw [show min j r.keys.length = j by omega] at h1
    rw [show min (j + 1) r.keys.length = j + 1 by omega]
    exact ⟨c, h1, .inr ⟨fun hk => hy ⟨hp, ⟨by omega, hl⟩, hk⟩, rfl⟩⟩
  · rw [show min (j + 1) r.keys.length = min j r.keys.length by omega]
    exact h1
theorem implCnt_end {r : Rg} {m : Int} {c n : Nat} (h : implCnt r m 9 c) (hn : RMany r m n) : c = n := by
  rcases hn with ⟨hp, hc⟩ | ⟨hp, rfl⟩
  · have h1 := h.1 hp
    rw [show min 9 r.keys.length = r.keys.length by have := hp.2.2.2; omega] at h1
    exact cnt_one h1 hc
  · exact h.2 hp
set_option maxHeartbeats 1000000 in
theorem implRingMany_any (r : Rg) (m : Int) (va vb : Value) (w : World) (lo hi : Nat) (hhi : hi ≤ w.heap.size) (ha : RSl RInt 1 w lo hi r.keys [va]) (h : RSl RGr 3 w lo hi r.grs [vb]) (n : Nat) (hn : RMany r m n) :
    Calls Try.prog 29 #[.agg #[va, vb], .int .i64 m] w fun e w' => e = .returned (.int .i64 n) ∧ Below w.heap.size w w' := by
  have HM := Lib.hid hn; clear hn
  obtain ⟨A, c, rfl⟩ := ha.form
  obtain ⟨B, d, rfl⟩ := h.form
  obtain ⟨_, hc, hx⟩ := ha.len_
  obtain ⟨_, hd, hy⟩ := h.len_
  unfold maxLen at hx hy
  have hbw := below_alloc w (.cells #[.slice A r.keys.length c, .slice B r.grs.length d] 30)
  have f1 := sl_keep RInt.loc ha hbw hhi
  have g1 := sl_keep RGr.loc h hbw hhi
  have c0 := new_cell w #[.slice A r.keys.length c, .slice B r.grs.length d] 30 0 rfl
  have c1 := new_cell w #[.slice A r.keys.length c, .slice B r.grs.length d] 30 1 rfl
  have hhi0 : hi ≤ (w.alloc (.cells #[.slice A r.keys.length c, .slice B r.grs.length d] 30)).heap.size := Nat.le_trans hhi hbw.size
  go_enter Try.func29, Try.ntmps29
  go_wp2_with fail
  generalize w.alloc (.cells #[.slice A r.keys.length c, .slice B r.grs.length d] 30) = w0 at *
  go_loopw [5, 9] (fun cc i wr => ∃ (j : Nat) (cj : Nat), j ≤ 9 ∧ cj ≤ j ∧ i = .int .i64 j ∧ cc = .int .i64 cj ∧ implCnt r m j cj ∧ Below w0.heap.size w0 wr) (fun _ i _ => 9 - (intOf i).toNat)
  case atStart => exact ⟨0, 0, by omega, by omega, rfl, rfl, ⟨fun _ => by rw [Nat.zero_min]; exact rfl, fun _ => rfl⟩, Below.refl _ _⟩
  case round =>
    obtain ⟨j, cj, hj, hcj, rfl, rfl, hn, hbr⟩ := hrel
    have HN := Lib.hid hn; clear hn
    replace c0 := cell_keep hbr c0
    replace c1 := cell_keep hbr c1
    replace f1 := sl_keep RInt.loc f1 hbr hhi0
    replace g1 := sl_keep RGr.loc g1 hbr hhi0
    replace hbw := hbw.trans (hbr.mono hbw.size)
    replace hhi0 := Nat.le_trans hhi0 hbr.size
    by_cases hlt : j < 9
    · obtain ⟨k, ok, hk⟩ := RKey_total r m ((j : Int) + 1)
      have HK := Lib.hid hk
      by_cases q : ringP r ∧ (1 ≤ (j : Int) + 1 ∧ (j : Int) + 1 ≤ r.keys.length) ∧ keyP r m ((j : Int) + 1)
      · obtain ⟨rfl, _⟩ := hk.yes q
        have HNX := Lib.hid (implCnt_yes HN.out q)
        clear hk q
        go_wp2_with fail
        refine (implRingKey_any r m ((j : Int) + 1) _ _ _ lo hi hhi0 f1 g1 k true HK.out).mono ?_
        rintro e w3 ⟨rfl, hb3⟩
        go_wp2_with fail
        go_roundw
        case rel => first | exact ⟨j + 1, cj + 1, by omega, by omega, by go_num, by go_num, HNX.out, hbr.trans (hb3.mono hbr.size)⟩ | ((repeat apply Exists.intro); refine ⟨?_, rfl⟩; exact ⟨j + 1, cj + 1, by omega, by omega, by go_num, by go_num, HNX.out, hbr.trans (hb3.mono hbr.size)⟩)
        case measure => simp [intOf]; omega
      · obtain ⟨rfl, rfl⟩ := hk.no q
        have HNX := Lib.hid (implCnt_no HN.out q)
        clear hk q
        go_wp2_with fail
        refine (implRingKey_any r m ((j : Int) + 1) _ _ _ lo hi hhi0 f1 g1 0 false HK.out).mono ?_
        rintro e w3 ⟨rfl, hb3⟩
        go_wp2_with fail
        go_roundw
        case rel => first | exact ⟨j + 1, cj, by omega, by omega, by go_num, rfl, HNX.out, hbr.trans (hb3.mono hbr.size)⟩ | ((repeat apply Exists.intro); refine ⟨?_, rfl⟩; exact ⟨j + 1, cj, by omega, by omega, by go_num, rfl, HNX.out, hbr.trans (hb3.mono hbr.size)⟩)
        case measure => simp [intOf]; omega
    · obtain rfl : j = 9 := by omega
      have hcn := implCnt_end HN.out HM.out
      subst hcn
      go_wp2_with fail
      go_ret
      exact ⟨rfl, hbw⟩
end Go.Proofs.Ytdbeclnoaeiaeaa
