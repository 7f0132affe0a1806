


/- laws.ldRing: whether rings are the same. -/
import Derived.Test.YtdbeclnoaeiaeaaInts
import Derived.Test.YtdbeclnoaeiaeaaRgI
namespace Go.Proofs.Ytdbeclnoaeiaeaa
open Go.RowKit
theorem ldRing_any (r s : Rg) (va vb ua ub : Value) (w : World) (lo hi lo' hi' : Nat) (hhi : hi ≤ w.heap.size) (hhi' : hi' ≤ w.heap.size) (ha : RSl RInt 1 w lo hi r.keys [va]) (hb : RSl RGr 3 w lo hi r.grs [vb]) (ha' : RSl RInt 1 w lo' hi' s.keys [ua]) (hb' : RSl RGr 3 w lo' hi' s.grs [ub]) (ok : Bool) (hok : ok = true ↔ r = s) :
    Calls Try.prog 34 #[.agg #[va, vb], .agg #[ua, ub]] w fun e w' => e = .returned (.bool ok) ∧ Below w.heap.size w w' := by
  have HO := Lib.hid hok; clear hok
  obtain ⟨A, c, rfl⟩ := ha.form
  obtain ⟨B, d, rfl⟩ := hb.form
  obtain ⟨A', c', rfl⟩ := ha'.form
  obtain ⟨B', d', rfl⟩ := hb'.form
  obtain ⟨_, hd1, hy1⟩ := hb.len_
  unfold maxLen at hy1
  go_enter Try.func34, Try.ntmps34
  go_wp2_with fail
  have hbw0 : Below w.heap.size w ((w.alloc (.cells #[.slice A r.keys.length c, .slice B r.grs.length d] 30)).alloc (.cells #[.slice A' s.keys.length c', .slice B' s.grs.length d'] 30)) := below_alloc' (below_alloc _ _) _
  have k0 : Blk ((w.alloc (.cells #[.slice A r.keys.length c, .slice B r.grs.length d] 30)).alloc (.cells #[.slice A' s.keys.length c', .slice B' s.grs.length d'] 30)) (w.heap.size) 30 #[.slice A r.keys.length c, .slice B r.grs.length d] := by
    have hk := blk_alloc (Blk.new w 30 #[.slice A r.keys.length c, .slice B r.grs.length d]) (.cells #[.slice A' s.keys.length c', .slice B' s.grs.length d'] 30)
    exact hk
  have k1 : Blk ((w.alloc (.cells #[.slice A r.keys.length c, .slice B r.grs.length d] 30)).alloc (.cells #[.slice A' s.keys.length c', .slice B' s.grs.length d'] 30)) (w.heap.size + 1) 30 #[.slice A' s.keys.length c', .slice B' s.grs.length d'] := by
    have hk := Blk.new (w.alloc (.cells #[.slice A r.keys.length c, .slice B r.grs.length d] 30)) 30 #[.slice A' s.keys.length c', .slice B' s.grs.length d']
    simp only [World.size_alloc] at hk
    exact hk
  have hsw0 : w.heap.size + 2 ≤ ((w.alloc (.cells #[.slice A r.keys.length c, .slice B r.grs.length d] 30)).alloc (.cells #[.slice A' s.keys.length c', .slice B' s.grs.length d'] 30)).heap.size := by simp only [World.size_alloc]; omega
  generalize ((w.alloc (.cells #[.slice A r.keys.length c, .slice B r.grs.length d] 30)).alloc (.cells #[.slice A' s.keys.length c', .slice B' s.grs.length d'] 30)) = w0 at *
  have ck0 := k0.cell
  have fk0 := k0.frozen
  have ck1 := k1.cell
  have fk1 := k1.frozen
  have f1 := sl_keep RInt.loc ha hbw0 hhi
  have f2 := sl_keep RInt.loc ha' hbw0 hhi'
  have g1 := sl_keep RGr.loc hb hbw0 hhi
  have g2 := sl_keep RGr.loc hb' hbw0 hhi'
  refine (ldInts_any r.keys s.keys _ _ _ _ _ _ _ f1 f2).mono ?_
  rintro e w1 ⟨rfl, n1, rfl⟩
  have bn := below_drewN hbw0 n1
  have ck : ∀ i, (w0.drewN n1).cell? ⟨w.heap.size, i, none⟩ = _ := ck0
  have ck' : ∀ i, (w0.drewN n1).cell? ⟨w.heap.size + 1, i, none⟩ = _ := ck1
  by_cases hk : r.keys = s.keys
  · rw [decide_eq_true hk]
    by_cases hl : r.grs.length = s.grs.length
    · have t1 : ((r.grs.length : Int) == (s.grs.length : Int)) = true := beq_iff_eq.2 (by omega)
      have HL := Lib.hid hl; clear hl
      have HK := Lib.hid hk; clear hk
      go_wp2_with fail
      go_loopw [5] (fun i wr => ∃ k : Nat, k ≤ r.grs.length ∧ i = .int .i64 k ∧ (∀ j, j < k → r.grs[j]? = s.grs[j]?) ∧ ∃ n, wr = w0.drewN n) (fun i _ => r.grs.length - (intOf i).toNat)
      case atStart => exact ⟨0, Nat.zero_le _, rfl, fun j hj => absurd hj (by omega), n1, rfl⟩
      case round =>
        obtain ⟨k, hk, rfl, hn, n, rfl⟩ := hrel
        have HN := Lib.hid hn; clear hn
        clear ck ck'
        have ck : ∀ i, (w0.drewN n).cell? ⟨w.heap.size, i, none⟩ = _ := ck0
        have ck' : ∀ i, (w0.drewN n).cell? ⟨w.heap.size + 1, i, none⟩ = _ := ck1
        by_cases hlt : k < r.grs.length
        · obtain ⟨x, hxk⟩ := some_of_lt hlt
          obtain ⟨y, hyk⟩ := some_of_lt (l := s.grs) (k := k) (by have := HL.out; omega)
          obtain ⟨b1, off1, rfl, _, _, _, p0, p1, p2⟩ := g1.grs_at hxk
          obtain ⟨b2, off2, rfl, _, _, _, q0, q1, q2⟩ := g2.grs_at hyk
          have HX := Lib.hid hxk; have HY := Lib.hid hyk
          clear hxk hyk
          have hle : k < s.grs.length := by have := HL.out; omega
          by_cases he : x.m = y.m ∧ x.f = y.f ∧ x.t = y.t
          · have t2 : (x.m == y.m) = true := beq_iff_eq.2 he.1
            have t3 : (x.f == y.f) = true := beq_iff_eq.2 he.2.1
            have t4 : (x.t == y.t) = true := beq_iff_eq.2 he.2.2
            have HE := Lib.hid he; clear he
            go_wp2_with fail
            go_quiet (fail)
            go_wp2_with fail
            have hnx : ∀ j, j < k + 1 → r.grs[j]? = s.grs[j]? := fun j hj => by
              rcases Nat.lt_or_ge j k with h | h
              · exact HN.out j h
              · obtain rfl : j = k := by omega
                rw [HX.out, HY.out]
                obtain ⟨e1, e2, e3⟩ := HE.out
                cases x; cases y
                simp only at e1 e2 e3
                subst e1; subst e2; subst e3; rfl
            have HNX := Lib.hid hnx; clear hnx
            go_roundw
            case rel => first | exact ⟨k + 1, by omega, by go_num, HNX.out, _, rfl⟩ | ((repeat apply Exists.intro); refine ⟨?_, rfl⟩; exact ⟨k + 1, by omega, by go_num, HNX.out, _, rfl⟩)
            case measure => simp [intOf]; omega
          · have hf : ok = false := by
              cases ok
              · rfl
              · refine absurd ?_ he
                have e := HO.out.1 rfl
                subst e
                have := HX.out.symm.trans HY.out
                cases this
                exact ⟨rfl, rfl, rfl⟩
            subst hf
            by_cases h2 : x.m = y.m
            · have t2 : (x.m == y.m) = true := beq_iff_eq.2 h2
              by_cases h3 : x.f = y.f
              · have t3 : (x.f == y.f) = true := beq_iff_eq.2 h3
                have t4 : (x.t == y.t) = false := beq_eq_false_iff_ne.2 fun h4 => he ⟨h2, h3, h4⟩
                clear he h2 h3
                go_wp2_with fail
                go_quiet (fail)
                go_wp2_with fail
                go_ret
                exact ⟨rfl, below_drewN (below_drewN hbw0 _) _⟩
              · have t3 : (x.f == y.f) = false := beq_eq_false_iff_ne.2 h3
                clear he h2 h3
                go_wp2_with fail
                go_quiet (fail)
                go_wp2_with fail
                go_ret
                exact ⟨rfl, below_drewN (below_drewN hbw0 _) _⟩
            · have t2 : (x.m == y.m) = false := beq_eq_false_iff_ne.2 h2
              clear he h2
              go_wp2_with fail
              go_quiet (fail)
              go_wp2_with fail
              go_ret
              exact ⟨rfl, below_drewN (below_drewN hbw0 _) _⟩
        · obtain rfl : k = r.grs.length := by omega
          have ht : ok = true := by
            refine HO.out.2 ?_
            have : r.grs = s.grs := List.ext_getElem? fun j => by
              rcases Nat.lt_or_ge j r.grs.length with h | h
              · exact HN.out j h
              · rw [List.getElem?_eq_none h, List.getElem?_eq_none (by have := HL.out; omega)]
            cases r; cases s
            simp only at this
            have hk := HK.out
            simp only at hk
            subst this; subst hk; rfl
          subst ht
          go_wp2_with fail
          go_ret
          exact ⟨rfl, below_drewN hbw0 n⟩
    · have t1 : ((r.grs.length : Int) == (s.grs.length : Int)) = false := beq_eq_false_iff_ne.2 (by omega)
      have hf : ok = false := by
        cases ok
        · rfl
        · exact absurd (congrArg (fun x => x.grs.length) (HO.out.1 rfl)) hl
      subst hf
      clear hk hl
      go_wp2_with fail
      go_ret
      exact ⟨rfl, bn⟩
  · rw [decide_eq_false hk]
    have hf : ok = false := by
      cases ok
      · rfl
      · exact absurd (congrArg Rg.keys (HO.out.1 rfl)) hk
    subst hf
    clear hk
    go_wp2_with fail
    go_ret
    exact ⟨rfl, bn⟩
end Go.Proofs.Ytdbeclnoaeiaeaa
