


/- Keys of a ring: which machine has the key of which epoch. -/
import Derived.Test.YtdbeclnoaeiaeaaRgI
namespace Go.Proofs.Ytdbeclnoaeiaeaa
open Go.RowKit

theorem idx_cases {α : Type} (p : α → Bool) (xs : List α) : (idxOf p xs = -1 ∧ ∀ y ∈ xs, p y = false) ∨ ∃ (k : Nat) (x : α), xs[k]? = some x ∧ p x = true ∧ idxOf p xs = (k : Int) := by
  unfold idxOf
  cases h : xs.findIdx? p with
  | none =>
    rw [List.findIdx?_eq_none_iff] at h
    exact .inl ⟨rfl, h⟩
  | some i =>
    obtain ⟨hi, hp, _⟩ := List.findIdx?_eq_some_iff_getElem.1 h
    exact .inr ⟨i, xs[i], List.getElem?_eq_getElem hi, hp, rfl⟩
/-- A machine has the key of an epoch. -/
def keyP (r : Rg) (m e : Int) : Prop := ∃ g ∈ r.grs, g.m = m ∧ g.f ≤ e ∧ (g.t = 0 ∨ e ≤ g.t)
theorem grs_one {n : Nat} {xs : List Gr} (h : grsP n xs) {i j : Nat} {a b : Gr} (ha : xs[i]? = some a) (hb : xs[j]? = some b) (he : a.m = b.m) : i = j ∧ a = b := by
  have hij : i = j := by
    rcases Nat.lt_trichotomy i j with hlt | heq | hlt
    · have h1 := List.pairwise_iff_getElem.1 h.2 i j (lt_of_some ha) (lt_of_some hb) hlt
      rw [getElem_of_some' ha, getElem_of_some' hb] at h1
      omega
    · exact heq
    · have h1 := List.pairwise_iff_getElem.1 h.2 j i (lt_of_some hb) (lt_of_some ha) hlt
      rw [getElem_of_some' ha, getElem_of_some' hb] at h1
      omega
  subst hij
  rw [ha] at hb
  exact ⟨rfl, by simpa using hb⟩
theorem keyP_at {n : Nat} {r : Rg} (h : grsP n r.grs) {k : Nat} {g : Gr} (hg : r.grs[k]? = some g) {m : Int} (hm : g.m = m) (e : Int) : keyP r m e ↔ g.f ≤ e ∧ (g.t = 0 ∨ e ≤ g.t) := by
  constructor
  · intro ⟨g', hg', h1, h2, h3⟩
    obtain ⟨j, hj⟩ := List.mem_iff_getElem?.1 hg'
    obtain ⟨_, rfl⟩ := grs_one h hj hg (by rw [h1, hm])
    exact ⟨h2, h3⟩
  · intro ⟨h2, h3⟩
    exact ⟨g, List.mem_of_getElem? hg, hm, h2, h3⟩
theorem keyP_no {r : Rg} {m : Int} (h : ∀ y ∈ r.grs, decide (y.m = m) = false) (e : Int) : ¬ keyP r m e := fun ⟨g, hg, h1, _⟩ => by
  have := h g hg
  simp [h1] at this

set_option maxHeartbeats 1000000 in
theorem l33Key_any (r : Rg) (m e : Int) (va vb : Value) (w : World) (lo hi : Nat) (hhi : hi ≤ w.heap.size) (ha : RSl RInt 1 w lo hi r.keys [va]) (h : RSl RGr 3 w lo hi r.grs [vb]) (n : Nat) (hp : grsP n r.grs) (b : Bool) (hb : b = true ↔ keyP r m e) :
    Calls Try.prog 61 #[.agg #[va, vb], .int .i64 m, .int .i64 e] w fun e w' => e = .returned (.bool b) ∧ Below w.heap.size w w' := by
  have HB := Lib.hid hb; clear hb
  have HP := Lib.hid hp; clear hp
  obtain ⟨A, c, rfl⟩ := ha.form
  obtain ⟨B, d, rfl⟩ := h.form
  obtain ⟨_, hc, hx⟩ := ha.len_
  obtain ⟨_, hd, hy⟩ := h.len_
  unfold maxLen at hx hy
  have hbw := below_alloc w (.cells #[.slice A r.keys.length c, .slice B r.grs.length d] 30)
  have g1 := sl_keep RGr.loc h hbw hhi
  have c0 := new_cell w #[.slice A r.keys.length c, .slice B r.grs.length d] 30 0 rfl
  have c1 := new_cell w #[.slice A r.keys.length c, .slice B r.grs.length d] 30 1 rfl
  have hhi0 : hi ≤ (w.alloc (.cells #[.slice A r.keys.length c, .slice B r.grs.length d] 30)).heap.size := Nat.le_trans hhi hbw.size
  go_enter Try.func61, Try.ntmps61
  go_wp2_with fail
  generalize w.alloc (.cells #[.slice A r.keys.length c, .slice B r.grs.length d] 30) = w0 at *
  refine (l33At_any r m _ _ _ lo hi hhi0 g1).mono ?_
  rintro e1 w1 ⟨rfl, hb1⟩
  replace c0 := cell_keep hb1 c0
  replace c1 := cell_keep hb1 c1
  have g2 := sl_keep RGr.loc g1 hb1 hhi0
  rcases idx_cases (fun g => decide (g.m = m)) r.grs with ⟨hi1, hno⟩ | ⟨k, x, hxk, hxm, hi1⟩
  · rw [hi1]
    have hf : b = false := by rw [← Bool.not_eq_true, HB.out]; exact keyP_no hno e
    have HF := Lib.hid hf; clear hf hno hi1
    go_wp2_with fail
    go_ret
    exact ⟨ret_bool HF.out.symm, hbw.trans (hb1.mono hbw.size)⟩
  · rw [hi1]
    obtain ⟨b1, off, rfl, _, _, h64, hcell, hcell1, hcell2⟩ := g2.grs_at hxk
    have hlt := lt_of_some hxk
    have hk := keyP_at HP.out hxk (by simpa using hxm) e
    have HK := Lib.hid hk; clear hk hxk hi1 hxm
    by_cases p1 : x.f ≤ e
    · by_cases p2 : x.t = 0
      · have hf : b = true := by rw [HB.out, HK.out]; exact ⟨p1, .inl p2⟩
        have HF := Lib.hid hf; clear hf
        have t1 : (x.t == 0) = true := beq_iff_eq.2 p2
        have H2 := Lib.hid p2; clear p2
        go_wp2_with fail
        go_ret
        exact ⟨ret_bool HF.out.symm, hbw.trans (hb1.mono hbw.size)⟩
      · have t1 : (x.t == 0) = false := beq_eq_false_iff_ne.2 p2
        have H2 := Lib.hid p2; clear p2
        go_wp2_with fail
        go_ret
        exact ⟨ret_bool (by rw [eq_comm, Bool.eq_iff_iff, HB.out, HK.out]; simp [p1, H2.out]), hbw.trans (hb1.mono hbw.size)⟩
    · have hf : b = false := by rw [← Bool.not_eq_true, HB.out, HK.out]; exact fun h => p1 h.1
      have HF := Lib.hid hf; clear hf
      go_wp2_with fail
      go_ret
      exact ⟨ret_bool HF.out.symm, hbw.trans (hb1.mono hbw.size)⟩

/-- What RingKey answers. -/
def RKey (r : Rg) (m e k : Int) (ok : Bool) : Prop :=
  (ok = true ∧ (ringP r ∧ (1 ≤ e ∧ e ≤ r.keys.length) ∧ keyP r m e) ∧ r.keys[(e - 1).toNat]? = some k) ∨ (ok = false ∧ k = 0 ∧ ¬ (ringP r ∧ (1 ≤ e ∧ e ≤ r.keys.length) ∧ keyP r m e))
theorem RKey_total (r : Rg) (m e : Int) : ∃ k ok, RKey r m e k ok := by
  by_cases h : ringP r ∧ (1 ≤ e ∧ e ≤ r.keys.length) ∧ keyP r m e
  · obtain ⟨k, hk⟩ := some_of_lt (l := r.keys) (k := (e - 1).toNat) (by have := h.2.1; omega)
    exact ⟨k, true, .inl ⟨rfl, h, hk⟩⟩
  · exact ⟨0, false, .inr ⟨rfl, rfl, h⟩⟩
theorem RKey.ok_iff {r : Rg} {m e k : Int} {ok : Bool} (h : RKey r m e k ok) : ok = true ↔ ringP r ∧ (1 ≤ e ∧ e ≤ r.keys.length) ∧ keyP r m e := by
  rcases h with ⟨rfl, h, _⟩ | ⟨rfl, _, h⟩
  · simpa using h
  · simpa using h
theorem RKey.no {r : Rg} {m e k : Int} {ok : Bool} (h : RKey r m e k ok) (hn : ¬ (ringP r ∧ (1 ≤ e ∧ e ≤ r.keys.length) ∧ keyP r m e)) : k = 0 ∧ ok = false := by
  rcases h with ⟨_, h, _⟩ | ⟨h1, h2, _⟩
  · exact absurd h hn
  · exact ⟨h2, h1⟩
theorem RKey.yes {r : Rg} {m e k : Int} {ok : Bool} (h : RKey r m e k ok) (hy : ringP r ∧ (1 ≤ e ∧ e ≤ r.keys.length) ∧ keyP r m e) : ok = true ∧ r.keys[(e - 1).toNat]? = some k := by
  rcases h with ⟨h1, _, h2⟩ | ⟨_, _, h⟩
  · exact ⟨h1, h2⟩
  · exact absurd hy h
theorem ret_key {k : Int} {ok : Bool} {k' : Int} {ok' : Bool} (h : k = k' ∧ ok = ok') : Ending.returned (.tuple #[.int .i64 k', .bool ok']) = Ending.returned (.tuple #[.int .i64 k, .bool ok]) := by rw [h.1, h.2]

set_option maxHeartbeats 1000000 in
theorem specRingKey_any (r : Rg) (m e : Int) (va vb : Value) (w : World) (lo hi : Nat) (hhi : hi ≤ w.heap.size) (ha : RSl RInt 1 w lo hi r.keys [va]) (h : RSl RGr 3 w lo hi r.grs [vb]) (k : Int) (ok : Bool) (hk : RKey r m e k ok) :
    Calls Try.prog 25 #[.agg #[va, vb], .int .i64 m, .int .i64 e] w fun e' w' => e' = .returned (.tuple #[.int .i64 k, .bool ok]) ∧ Below w.heap.size w w' := by
  have HK := Lib.hid hk; clear hk
  obtain ⟨A, c, rfl⟩ := ha.form
  obtain ⟨B, d, rfl⟩ := h.form
  obtain ⟨_, hc, hx⟩ := ha.len_
  obtain ⟨_, hd, hy⟩ := h.len_
  unfold maxLen at hx hy
  have hbw := below_alloc w (.cells #[.slice A r.keys.length c, .slice B r.grs.length d] 30)
  have f1 := sl_keep RInt.loc ha hbw hhi
  have g1 := sl_keep RGr.loc h hbw hhi
  have c0 := new_cell w #[.slice A r.keys.length c, .slice B r.grs.length d] 30 0 rfl
  have c1 := new_cell w #[.slice A r.keys.length c, .slice B r.grs.length d] 30 1 rfl
  have hhi0 : hi ≤ (w.alloc (.cells #[.slice A r.keys.length c, .slice B r.grs.length d] 30)).heap.size := Nat.le_trans hhi hbw.size
  go_enter Try.func25, Try.ntmps25
  by_cases p1 : ringP r
  · have H1 := Lib.hid p1; clear p1
    go_wp2_with fail
    generalize w.alloc (.cells #[.slice A r.keys.length c, .slice B r.grs.length d] 30) = w0 at *
    refine (specRingOk_any r _ _ _ lo hi hhi0 f1 g1 true (by simp only [true_iff]; exact H1.out)).mono ?_
    rintro e1 w1 ⟨rfl, hb1⟩
    replace c0 := cell_keep hb1 c0
    replace c1 := cell_keep hb1 c1
    replace f1 := sl_keep RInt.loc f1 hb1 hhi0
    replace g1 := sl_keep RGr.loc g1 hb1 hhi0
    replace hbw := hbw.trans (hb1.mono hbw.size)
    replace hhi0 := Nat.le_trans hhi0 hb1.size
    by_cases p2 : 1 ≤ e ∧ e ≤ r.keys.length
    · go_wp2_with fail
      refine (l6In_yes _ _ _ p2.1 p2.2 _).mono ?_
      rintro e w2 ⟨rfl, rfl⟩
      by_cases p3 : keyP r m e
      · have H3 := Lib.hid p3; clear p3
        obtain ⟨rfl, hkk⟩ := HK.out.yes ⟨H1.out, p2, H3.out⟩
        obtain ⟨b1, off, rfl, _, _, _, hcell⟩ := f1.ints_at hkk
        obtain ⟨e, rfl⟩ := Int.eq_ofNat_of_zero_le (a := e) (by omega)
        have he : ((e : Int) - 1).toNat = e - 1 := by omega
        rw [he] at hcell
        have HKK := Lib.hid hkk; clear hkk
        go_wp2_with fail
        refine (l33Key_any r m _ _ _ _ lo hi hhi0 f1 g1 _ H1.out.2.1 true (by simp only [true_iff]; exact H3.out)).mono ?_
        rintro e w3 ⟨rfl, hb3⟩
        replace c0 := cell_keep hb3 c0
        replace c1 := cell_keep hb3 c1
        replace f1 := sl_keep RInt.loc f1 hb3 hhi0
        replace g1 := sl_keep RGr.loc g1 hb3 hhi0
        replace hbw := hbw.trans (hb3.mono hbw.size)
        replace hhi0 := Nat.le_trans hhi0 hb3.size
        replace hcell := cell_keep hb3 hcell
        go_wp2_with fail
        go_ret2
        exact ⟨rfl, hbw⟩
      · have H3 := Lib.hid p3; clear p3
        have hret := ret_key (HK.out.no fun h => H3.out h.2.2)
        have HR := Lib.hid hret; clear hret
        go_wp2_with fail
        refine (l33Key_any r m _ _ _ _ lo hi hhi0 f1 g1 _ H1.out.2.1 false (by simp only [Bool.false_eq_true, false_iff]; exact H3.out)).mono ?_
        rintro e w3 ⟨rfl, hb3⟩
        replace c0 := cell_keep hb3 c0
        replace c1 := cell_keep hb3 c1
        replace f1 := sl_keep RInt.loc f1 hb3 hhi0
        replace g1 := sl_keep RGr.loc g1 hb3 hhi0
        replace hbw := hbw.trans (hb3.mono hbw.size)
        replace hhi0 := Nat.le_trans hhi0 hb3.size
        go_wp2_with fail
        go_ret2
        exact ⟨HR.out, hbw⟩
    · have hret := ret_key (HK.out.no fun h => p2 h.2.1)
      have HR := Lib.hid hret; clear hret
      have H2 := Lib.hid p2; clear p2
      go_wp2_with fail
      refine (l6In_no _ _ _ H2.out _).mono ?_
      rintro e w2 ⟨rfl, rfl⟩
      go_wp2_with fail
      go_ret2
      exact ⟨HR.out, hbw⟩
  · have hret := ret_key (HK.out.no fun h => p1 h.1)
    have HR := Lib.hid hret; clear hret
    have H1 := Lib.hid p1; clear p1
    go_wp2_with fail
    generalize w.alloc (.cells #[.slice A r.keys.length c, .slice B r.grs.length d] 30) = w0 at *
    refine (specRingOk_any r _ _ _ lo hi hhi0 f1 g1 false (by simp only [Bool.false_eq_true, false_iff]; exact H1.out)).mono ?_
    rintro e1 w1 ⟨rfl, hb1⟩
    replace c0 := cell_keep hb1 c0
    replace c1 := cell_keep hb1 c1
    replace f1 := sl_keep RInt.loc f1 hb1 hhi0
    replace g1 := sl_keep RGr.loc g1 hb1 hhi0
    replace hbw := hbw.trans (hb1.mono hbw.size)
    replace hhi0 := Nat.le_trans hhi0 hb1.size
    go_wp2_with fail
    go_ret2
    exact ⟨HR.out, hbw⟩

/-- A grant gives a machine the key of an epoch. -/
def gives (m e : Int) (g : Gr) : Prop := g.m = m ∧ g.f ≤ e ∧ (g.t = 0 ∨ e ≤ g.t)
set_option maxHeartbeats 1000000 in
theorem implRingKey_any (r : Rg) (m e : Int) (va vb : Value) (w : World) (lo hi : Nat) (hhi : hi ≤ w.heap.size) (ha : RSl RInt 1 w lo hi r.keys [va]) (h : RSl RGr 3 w lo hi r.grs [vb]) (k : Int) (ok : Bool) (hk : RKey r m e k ok) :
    Calls Try.prog 26 #[.agg #[va, vb], .int .i64 m, .int .i64 e] w fun e' w' => e' = .returned (.tuple #[.int .i64 k, .bool ok]) ∧ Below w.heap.size w w' := by
  have HK := Lib.hid hk; clear hk
  obtain ⟨A, c, rfl⟩ := ha.form
  obtain ⟨B, d, rfl⟩ := h.form
  obtain ⟨_, hc, hx⟩ := ha.len_
  obtain ⟨_, hd, hy⟩ := h.len_
  unfold maxLen at hx hy
  have hbw := below_alloc w (.cells #[.slice A r.keys.length c, .slice B r.grs.length d] 30)
  have f1 := sl_keep RInt.loc ha hbw hhi
  have g1 := sl_keep RGr.loc h hbw hhi
  have c0 := new_cell w #[.slice A r.keys.length c, .slice B r.grs.length d] 30 0 rfl
  have c1 := new_cell w #[.slice A r.keys.length c, .slice B r.grs.length d] 30 1 rfl
  have hhi0 : hi ≤ (w.alloc (.cells #[.slice A r.keys.length c, .slice B r.grs.length d] 30)).heap.size := Nat.le_trans hhi hbw.size
  go_enter Try.func26, Try.ntmps26
  by_cases p1 : ringP r
  · have H1 := Lib.hid p1; clear p1
    go_wp2_with fail
    generalize w.alloc (.cells #[.slice A r.keys.length c, .slice B r.grs.length d] 30) = w0 at *
    refine (implRingOk_any r _ _ _ lo hi hhi0 f1 g1 true (by simp only [true_iff]; exact H1.out)).mono ?_
    rintro e1 w1 ⟨rfl, hb1⟩
    replace c0 := cell_keep hb1 c0
    replace c1 := cell_keep hb1 c1
    replace f1 := sl_keep RInt.loc f1 hb1 hhi0
    replace g1 := sl_keep RGr.loc g1 hb1 hhi0
    replace hbw := hbw.trans (hb1.mono hbw.size)
    replace hhi0 := Nat.le_trans hhi0 hb1.size
    by_cases p2 : 1 ≤ e ∧ e ≤ r.keys.length
    · have H2 := Lib.hid p2
      go_wp2_with fail
      refine (epochIn_any r.keys.length e _ _ _ _ true (by simp only [true_iff]; exact H2.out)).mono ?_
      rintro e w2 ⟨rfl, hb2⟩
      replace c0 := cell_keep hb2 c0
      replace c1 := cell_keep hb2 c1
      replace f1 := sl_keep RInt.loc f1 hb2 hhi0
      replace g1 := sl_keep RGr.loc g1 hb2 hhi0
      replace hbw := hbw.trans (hb2.mono hbw.size)
      replace hhi0 := Nat.le_trans hhi0 hb2.size
      go_wp2_with fail
      go_loopw [22] (fun i wr => ∃ j : Nat, j ≤ r.grs.length ∧ i = .int .i64 j ∧ (∀ y ∈ r.grs.take j, ¬ gives m e y) ∧ Below w2.heap.size w2 wr) (fun i _ => r.grs.length - (intOf i).toNat)
      case atStart => exact ⟨0, Nat.zero_le _, rfl, by simp, Below.refl _ _⟩
      case round =>
        obtain ⟨j, hj, rfl, hn, hbr⟩ := hrel
        have HN := Lib.hid hn; clear hn
        replace c0 := cell_keep hbr c0
        replace c1 := cell_keep hbr c1
        replace f1 := sl_keep RInt.loc f1 hbr hhi0
        replace g1 := sl_keep RGr.loc g1 hbr hhi0
        replace hbw := hbw.trans (hbr.mono hbw.size)
        replace hhi0 := Nat.le_trans hhi0 hbr.size
        by_cases hlt : j < r.grs.length
        · obtain ⟨x, hxk⟩ := some_of_lt hlt
          obtain ⟨b1, off, rfl, _, _, h64, hcell, hcell1, hcell2⟩ := g1.grs_at hxk
          have HX := Lib.hid hxk; clear hxk
          by_cases q : gives m e x
          · have hkp : keyP r m e := ⟨x, List.mem_of_getElem? HX.out, q⟩
            obtain ⟨rfl, hkk⟩ := HK.out.yes ⟨H1.out, p2, hkp⟩
            obtain ⟨b2, off2, rfl, _, _, _, hcell3⟩ := f1.ints_at hkk
            obtain ⟨e, rfl⟩ := Int.eq_ofNat_of_zero_le (a := e) (by omega)
            have he : ((e : Int) - 1).toNat = e - 1 := by omega
            rw [he] at hcell3
            obtain ⟨q1, q2, q3⟩ := q
            have t1 : (x.m == m) = true := beq_iff_eq.2 q1
            have HKK := Lib.hid hkk; clear hkk hkp q1
            have d0 := cell_keep (below_alloc wr (.cells #[.int .i64 x.m, .int .i64 x.f, .int .i64 x.t] 37)) c0
            have d3 := cell_keep (below_alloc wr (.cells #[.int .i64 x.m, .int .i64 x.f, .int .i64 x.t] 37)) hcell3
            by_cases q4 : x.t = 0
            · have t2 : (x.t == 0) = true := beq_iff_eq.2 q4
              have H4 := Lib.hid q4; clear q4 q3
              go_wp2_with fail
              go_ret2
              exact ⟨rfl, hbw.trans ((below_alloc _ _).mono hbw.size)⟩
            · have t2 : (x.t == 0) = false := beq_eq_false_iff_ne.2 q4
              have t3 : (e : Int) ≤ x.t := by rcases q3 with h | h; exact absurd h q4; exact h
              have H4 := Lib.hid q4; clear q4 q3
              go_wp2_with fail
              go_ret2
              exact ⟨rfl, hbw.trans ((below_alloc _ _).mono hbw.size)⟩
          · have hnext : ∀ y ∈ r.grs.take (j + 1), ¬ gives m e y := by
              intro y hy
              rw [take_succ HX.out, List.mem_append] at hy
              rcases hy with hy | hy
              · exact HN.out y hy
              · rw [List.mem_singleton.1 hy]; exact q
            have HNX := Lib.hid hnext; clear hnext
            have hall : (x.m == m) = false ∨ ((x.m == m) = true ∧ ¬ x.f ≤ e) ∨ ((x.m == m) = true ∧ x.f ≤ e ∧ (x.t == 0) = false ∧ ¬ e ≤ x.t) := by
              by_cases a : x.m = m
              · by_cases b : x.f ≤ e
                · refine .inr (.inr ⟨beq_iff_eq.2 a, b, ?_, ?_⟩)
                  · rw [beq_eq_false_iff_ne]; exact fun h => q ⟨a, b, .inl h⟩
                  · exact fun h => q ⟨a, b, .inr h⟩
                · exact .inr (.inl ⟨beq_iff_eq.2 a, b⟩)
              · exact .inl (beq_eq_false_iff_ne.2 a)
            clear q
            rcases hall with t1 | ⟨t1, t2⟩ | ⟨t1, t2, t3, t4⟩
            all_goals
              go_wp2_with fail
              go_roundw
              case rel => first | exact ⟨j + 1, by omega, by go_num, HNX.out, hbr.trans ((below_alloc _ _).mono hbr.size)⟩ | ((repeat apply Exists.intro); refine ⟨?_, rfl⟩; exact ⟨j + 1, by omega, by go_num, HNX.out, hbr.trans ((below_alloc _ _).mono hbr.size)⟩)
              case measure => simp [intOf]; omega
        · obtain rfl : j = r.grs.length := by omega
          have hno : ¬ keyP r m e := fun ⟨g, hg, hgg⟩ => by
            have := HN.out
            rw [List.take_length] at this
            exact this g hg hgg
          have hret := ret_key (HK.out.no fun h => hno h.2.2)
          have HR := Lib.hid hret; clear hret hno
          go_wp2_with fail
          go_ret2
          exact ⟨HR.out, hbw⟩
    · have hret := ret_key (HK.out.no fun h => p2 h.2.1)
      have HR := Lib.hid hret; clear hret
      have H2 := Lib.hid p2; clear p2
      go_wp2_with fail
      refine (epochIn_any r.keys.length e _ _ _ _ false (by simp only [Bool.false_eq_true, false_iff]; exact H2.out)).mono ?_
      rintro e w2 ⟨rfl, hb2⟩
      replace c0 := cell_keep hb2 c0
      replace c1 := cell_keep hb2 c1
      replace f1 := sl_keep RInt.loc f1 hb2 hhi0
      replace g1 := sl_keep RGr.loc g1 hb2 hhi0
      replace hbw := hbw.trans (hb2.mono hbw.size)
      replace hhi0 := Nat.le_trans hhi0 hb2.size
      go_wp2_with fail
      go_ret2
      exact ⟨HR.out, hbw⟩
  · have hret := ret_key (HK.out.no fun h => p1 h.1)
    have HR := Lib.hid hret; clear hret
    have H1 := Lib.hid p1; clear p1
    go_wp2_with fail
    generalize w.alloc (.cells #[.slice A r.keys.length c, .slice B r.grs.length d] 30) = w0 at *
    refine (implRingOk_any r _ _ _ lo hi hhi0 f1 g1 false (by simp only [Bool.false_eq_true, false_iff]; exact H1.out)).mono ?_
    rintro e1 w1 ⟨rfl, hb1⟩
    replace c0 := cell_keep hb1 c0
    replace c1 := cell_keep hb1 c1
    replace f1 := sl_keep RInt.loc f1 hb1 hhi0
    replace g1 := sl_keep RGr.loc g1 hb1 hhi0
    replace hbw := hbw.trans (hb1.mono hbw.size)
    replace hhi0 := Nat.le_trans hhi0 hb1.size
    go_wp2_with fail
    go_ret2
    exact ⟨HR.out, hbw⟩
end Go.Proofs.Ytdbeclnoaeiaeaa
