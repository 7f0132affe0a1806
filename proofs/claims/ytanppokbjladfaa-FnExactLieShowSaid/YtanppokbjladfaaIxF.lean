


/- IndexMerge and IndexFind of the program; indexes compared. -/
import Derived.Test.YtanppokbjladfaaIxI
namespace Go.Proofs.Ytanppokbjladfaa
open Go.RowKit

set_option maxHeartbeats 4000000 in
theorem implIndexMerge_any (a b : List Sp) (va vb : Value) (w : World) (lo hi : Nat) (hhi : hi ≤ w.heap.size) (ha : RSl RSp 2 w lo hi a [va]) (hb : RSl RSp 2 w lo hi b [vb]) (hl : a.length + b.length ≤ 100000000) (r : List Sp) (hr : IMerge a b r) :
    Calls Try.prog 21 #[va, vb] w (NewSp w r) := by
  obtain ⟨A, c, rfl⟩ := ha.form
  obtain ⟨B, d, rfl⟩ := hb.form
  obtain ⟨_, hc, hx⟩ := ha.len_
  obtain ⟨_, hd, hy⟩ := hb.len_
  unfold maxLen at hx hy
  go_enter Try.func21, Try.ntmps21
  by_cases p1 : ixP a
  · have H1 := Lib.hid p1; clear p1
    go_wp2_with fail
    refine (implIndexOk_any a _ _ _ _ hhi ha true (by simp only [true_iff]; exact H1.out)).mono ?_
    rintro e w1 ⟨rfl, b1⟩
    go_wp2_with fail
    obtain ⟨q, hq⟩ := bool_of (ixP b)
    refine (implIndexOk_any b _ w1 _ _ (Nat.le_trans hhi b1.size) (sl_keep RSp.loc hb b1 hhi) q hq).mono ?_
    rintro e w2 ⟨rfl, b2⟩
    have bb := b1.trans (b2.mono b1.size)
    have ha2 := sl_keep RSp.loc ha bb hhi
    have hb2 := sl_keep RSp.loc hb bb hhi
    have hhi2 := Nat.le_trans hhi bb.size
    cases q with
    | true =>
      have p2 := hq.1 rfl
      clear hq
      have H2 := Lib.hid p2; clear p2
      obtain rfl : r = putsS a b := by
        rcases hr with ⟨_, h⟩ | ⟨h, _⟩
        · exact h
        · exact absurd ⟨H1.out, H2.out⟩ h
      clear hr
      go_wp2_with fail
      have ba := below_alloc w2 (.cells #[.slice B b.length d, .slice A a.length c] 24)
      have hk : Blk (w2.alloc (.cells #[.slice B b.length d, .slice A a.length c] 24)) w2.heap.size 24 #[.slice B b.length d, .slice A a.length c] := Blk.new _ _ _
      have hs : SlAll (w2.alloc (.cells #[.slice B b.length d, .slice A a.length c] 24)) lo hi [(.slice B b.length d, b), (.slice A a.length c, a)] := by
        intro p hp
        simp only [List.mem_cons, List.not_mem_nil, or_false] at hp
        rcases hp with rfl | rfl
        · exact sl_keep RSp.loc hb2 ba hhi2
        · exact sl_keep RSp.loc ha2 ba hhi2
      have b02 := bb.trans (ba.mono bb.size)
      generalize w2.alloc (.cells #[.slice B b.length d, .slice A a.length c] 24) = w3 at *
      refine (treeOf_any [(.slice B b.length d, b), (.slice A a.length c, a)] w2.heap.size 2 w3 lo hi (Nat.le_trans hhi b02.size) hk hs (by simp) (by simp) (by simp)).mono ?_
      rintro e w4 ⟨t, rfl, ht, b4⟩
      have hlist : t.list = putsS a b := by
        rw [ht.list]
        show putsS (b ++ (a ++ [])) [] = _
        rw [List.append_nil, putsS_append, putsS_self (l := []) H2.out.2]
        rfl
      have hsz : t.size ≤ 100000000 := by
        rw [← Tr.list_len, hlist]
        have := putsS_len (a := a) (l := b)
        omega
      have htn := ht.tin
      have HL := Lib.hid hlist; clear hlist hk hs ha2 hb2 ba
      go_wp2_with fail
      refine (list_any t w4 w4.heap.size _ [] (Nat.le_refl _) (OwnF.nil _ _ _) htn (by simp; omega)).mono ?_
      rintro e w5 ⟨v5, rfl, o5, c5, _⟩
      have b45 : Below w4.heap.size w4 w5 := c5.below (Nat.le_refl _) fun i _ h => (by cases h)
      have b05 := (b02.trans (b4.mono b02.size)).trans (b45.mono (Nat.le_trans b02.size b4.size))
      rw [List.nil_append, HL.out] at o5
      obtain ⟨A5, c5, rfl⟩ := o5.form
      go_wp2_with fail
      go_ret
      exact ⟨_, rfl, o5.base (Nat.le_trans b02.size b4.size), b05⟩
    | false =>
      have p2 : ¬ ixP b := fun h => by have := hq.2 h; cases this
      clear hq
      obtain rfl : r = [] := by
        rcases hr with ⟨h, _⟩ | ⟨_, h⟩
        · exact absurd h.2 p2
        · exact h
      clear hr p2
      go_wp2_with fail
      go_ret
      exact ⟨_, rfl, OwnF.nil _ _ _, bb⟩
  · obtain rfl : r = [] := by
      rcases hr with ⟨h, _⟩ | ⟨_, h⟩
      · exact absurd h.1 p1
      · exact h
    have H1 := Lib.hid p1; clear p1 hr
    go_wp2_with fail
    refine (implIndexOk_any a _ _ _ _ hhi ha false (by simp only [Bool.false_eq_true, false_iff]; exact H1.out)).mono ?_
    rintro e w1 ⟨rfl, b1⟩
    go_wp2_with fail
    go_ret
    exact ⟨_, rfl, OwnF.nil _ _ _, b1⟩
theorem findS_out {n : Int} : ∀ {l : List Sp}, (∀ x ∈ l, ¬ x.n = n) → findS n l = 0
  | [], _ => rfl
  | x :: l, h => by
    show (if x.n = n then x.p else findS n l) = 0
    rw [if_neg (h x (by simp)), findS_out fun y hy => h y (by simp [hy])]
/-- What IndexFind gives. -/
def IFind (l : List Sp) (n r : Int) : Prop := (ixP l ∧ r = findS n l) ∨ (¬ ixP l ∧ r = 0)
set_option maxHeartbeats 4000000 in
theorem implIndexFind_any (a : List Sp) (n : Int) (va : Value) (w : World) (lo hi : Nat) (hhi : hi ≤ w.heap.size) (ha : RSl RSp 2 w lo hi a [va]) (hn : In64 n) (hl : a.length ≤ 100000000) (r : Int) (hr : IFind a n r) :
    Calls Try.prog 24 #[va, .int .i64 n] w fun e w' => e = .returned (.int .i64 r) ∧ Below w.heap.size w w' := by
  obtain ⟨A, c, rfl⟩ := ha.form
  obtain ⟨_, hc, hx⟩ := ha.len_
  unfold maxLen at hx
  go_enter Try.func24, Try.ntmps24
  by_cases p1 : ixP a
  · have H1 := Lib.hid p1; clear p1
    obtain rfl : r = findS n a := by
      rcases hr with ⟨_, h⟩ | ⟨h, _⟩
      · exact h
      · exact absurd H1.out h
    clear hr
    go_wp2_with fail
    refine (implIndexOk_any a _ _ _ _ hhi ha true (by simp only [true_iff]; exact H1.out)).mono ?_
    rintro e w2 ⟨rfl, bb⟩
    have ha2 := sl_keep RSp.loc ha bb hhi
    have hhi2 := Nat.le_trans hhi bb.size
    go_wp2_with fail
    have ba := below_alloc w2 (.cells #[.slice A a.length c] 24)
    have hk : Blk (w2.alloc (.cells #[.slice A a.length c] 24)) w2.heap.size 24 #[.slice A a.length c] := Blk.new _ _ _
    have hs : SlAll (w2.alloc (.cells #[.slice A a.length c] 24)) lo hi [(.slice A a.length c, a)] := by
      intro p hp
      simp only [List.mem_cons, List.not_mem_nil, or_false] at hp
      rcases hp with rfl
      exact sl_keep RSp.loc ha2 ba hhi2
    have b02 := bb.trans (ba.mono bb.size)
    generalize w2.alloc (.cells #[.slice A a.length c] 24) = w3 at *
    refine (treeOf_any [(.slice A a.length c, a)] w2.heap.size 1 w3 lo hi (Nat.le_trans hhi b02.size) hk hs (by simp) (by simp) (by simp)).mono ?_
    rintro e w4 ⟨t, rfl, ht, b4⟩
    have hlist : t.list = a := by
      rw [ht.list]
      show putsS (a ++ []) [] = _
      rw [List.append_nil, putsS_self (l := []) H1.out.2]
      rfl
    have htn := ht.tin
    have hta := ht.asc
    have HL := Lib.hid hlist; clear hlist hk hs ha2 ba
    go_wp2_with fail
    refine (find_any n t w4 htn hta).mono ?_
    rintro e w5 ⟨rfl, rfl⟩
    go_wp2_with fail
    go_ret
    exact ⟨by rw [HL.out]; rfl, b02.trans (b4.mono b02.size)⟩
  · obtain rfl : r = 0 := by
      rcases hr with ⟨h, _⟩ | ⟨_, h⟩
      · exact absurd h p1
      · exact h
    have H1 := Lib.hid p1; clear p1 hr
    go_wp2_with fail
    refine (implIndexOk_any a _ _ _ _ hhi ha false (by simp only [Bool.false_eq_true, false_iff]; exact H1.out)).mono ?_
    rintro e w1 ⟨rfl, b1⟩
    go_wp2_with fail
    go_ret
    exact ⟨rfl, b1⟩
set_option maxHeartbeats 4000000 in
theorem ldIndex_any (a b : List Sp) (va vb : Value) (w : World) (lo hi : Nat) (hhi : hi ≤ w.heap.size) (ha : RSl RSp 2 w lo hi a [va]) (hb : RSl RSp 2 w lo hi b [vb]) (q : Bool) (hq : q = true ↔ a = b) :
    Calls Try.prog 20 #[va, vb] w fun e w' => e = .returned (.bool q) ∧ Below w.heap.size w w' := by
  obtain ⟨A, c, rfl⟩ := ha.form
  obtain ⟨B, d, rfl⟩ := hb.form
  obtain ⟨_, hc, hx⟩ := ha.len_
  obtain ⟨_, hd, hy⟩ := hb.len_
  unfold maxLen at hx hy
  go_enter Try.func20, Try.ntmps20
  by_cases hle : a.length = b.length
  · have t1 : ((a.length : Int) != (b.length : Int)) = false := by rw [bne_eq_false_iff_eq]; omega
    have HQ := Lib.hid hq; clear hq
    have HL := Lib.hid hle; clear hle
    go_wp2_with fail
    go_loopw [5] (fun i wr => ∃ k : Nat, k ≤ a.length ∧ i = .int .i64 k ∧ (∀ j, j < k → a[j]? = b[j]?) ∧ Below w.heap.size w wr) (fun i _ => a.length - (intOf i).toNat)
    case atStart => exact ⟨0, Nat.zero_le _, rfl, fun j hj => absurd hj (by omega), Below.refl _ _⟩
    case round =>
      obtain ⟨k, hk, rfl, hn, hbr⟩ := hrel
      have HN := Lib.hid hn; clear hn
      have ha2 := sl_keep RSp.loc ha hbr hhi
      have hb2 := sl_keep RSp.loc hb hbr hhi
      by_cases hlt : k < a.length
      · obtain ⟨x, hxk⟩ := some_of_lt hlt
        obtain ⟨y, hyk⟩ := some_of_lt (l := b) (k := k) (by have := HL.out; omega)
        obtain ⟨b1, off1, rfl, _, _, _, p0, p1⟩ := sp_at ha2 hxk
        obtain ⟨b2, off2, rfl, _, _, _, q0, q1⟩ := sp_at hb2 hyk
        have HX := Lib.hid hxk; have HY := Lib.hid hyk
        clear hxk hyk
        have hle : k < b.length := by have := HL.out; omega
        by_cases he1 : x.n = y.n
        · have t2 : (x.n == y.n) = true := beq_iff_eq.2 he1
          have t2' : (x.n != y.n) = false := by rw [bne_eq_false_iff_eq]; exact he1
          by_cases he2 : x.p = y.p
          · have t3 : (x.p == y.p) = true := beq_iff_eq.2 he2
            have t3' : (x.p != y.p) = false := by rw [bne_eq_false_iff_eq]; exact he2
            have HE := Lib.hid (Sp.eq_of he1 he2); clear he1 he2
            go_wp2_with fail
            go_quiet (fail)
            have hb3 := below_drewN hbr nq
            go_wp2_with fail
            have hnx : ∀ j, j < k + 1 → a[j]? = b[j]? := fun j hj => by
              rcases Nat.lt_or_ge j k with h | h
              · exact HN.out j h
              · obtain rfl : j = k := by omega
                rw [HX.out, HY.out, HE.out]
            have HNX := Lib.hid hnx; clear hnx
            go_roundw
            case rel => exact ⟨k + 1, by omega, by go_num, HNX.out, hb3⟩
            case measure => simp [intOf]; omega
          · have t3 : (x.p == y.p) = false := beq_eq_false_iff_ne.2 he2
            have t3' : (x.p != y.p) = true := by rw [bne_iff_ne]; exact he2
            go_wp2_with fail
            go_quiet (fail)
            go_wp2_with fail
            obtain rfl : q = false := by
              cases q
              · rfl
              · have h1 := HQ.out.1 rfl
                have h2 := HX.out
                rw [h1, HY.out] at h2
                simp only [Option.some.injEq] at h2
                exact absurd (by rw [h2]) he2
            go_ret
            exact ⟨rfl, below_drewN hbr _⟩
        · have t2 : (x.n == y.n) = false := beq_eq_false_iff_ne.2 he1
          have t2' : (x.n != y.n) = true := by rw [bne_iff_ne]; exact he1
          go_wp2_with fail
          go_quiet (fail)
          go_wp2_with fail
          obtain rfl : q = false := by
            cases q
            · rfl
            · have h1 := HQ.out.1 rfl
              have h2 := HX.out
              rw [h1, HY.out] at h2
              simp only [Option.some.injEq] at h2
              exact absurd (by rw [h2]) he1
          go_ret
          exact ⟨rfl, below_drewN hbr _⟩
      · obtain rfl : k = a.length := by omega
        obtain rfl : q = true := HQ.out.2 (List.ext_getElem? fun j => by
          rcases Nat.lt_or_ge j a.length with h | h
          · exact HN.out j h
          · rw [List.getElem?_eq_none h, List.getElem?_eq_none (by have := HL.out; omega)])
        go_wp2_with fail
        go_ret
        exact ⟨rfl, hbr⟩
  · have t1 : ((a.length : Int) != (b.length : Int)) = true := by rw [bne_iff_ne]; omega
    obtain rfl : q = false := by
      cases q
      · rfl
      · exact absurd (congrArg List.length (hq.1 rfl)) hle
    go_wp2_with fail
    go_ret
    exact ⟨rfl, Below.refl _ _⟩
end Go.Proofs.Ytanppokbjladfaa
