/- spec.l12Add: numbers with one more. -/
import Derived.Test.YtbaofalpfmfloaaOwn
import Derived.Test.YtbaofalpfmfloaaInts
namespace Go.Proofs.Ytbaofalpfmfloaa
open Go.RowKit

/-- One number of the old list is taken over; the new one goes ahead of the first that is not less. -/
def addStep (n : Int) (s : List Int × Bool) (x : Int) : List Int × Bool :=
  (if x = n then (if !s.2 && decide (n ≤ x) then s.1 ++ [n] else s.1) else (if !s.2 && decide (n ≤ x) then s.1 ++ [n] else s.1) ++ [x], s.2 || decide (n ≤ x))
def addGo (n : Int) (xs : List Int) : List Int × Bool := xs.foldl (addStep n) ([], false)
def addTo (xs : List Int) (n : Int) : List Int := if (addGo n xs).2 then (addGo n xs).1 else (addGo n xs).1 ++ [n]
theorem addGo_snoc (n : Int) (xs : List Int) (x : Int) : addGo n (xs ++ [x]) = addStep n (addGo n xs) x := by unfold addGo; rw [List.foldl_append]; rfl
theorem addGo_mem (n : Int) (y : Int) (xs : List Int) : (y ∈ (addGo n xs).1 ↔ (y ∈ xs ∧ y ≠ n) ∨ (y = n ∧ (addGo n xs).2 = true)) := by
  induction xs using snocInd with
  | h0 => simp [addGo]
  | h1 xs x ih =>
    rw [addGo_snoc]
    generalize addGo n xs = s at ih
    obtain ⟨o, pt⟩ := s
    simp only [addStep, List.mem_append, List.mem_singleton] at ih ⊢
    by_cases h1 : x = n
    · subst h1
      cases pt <;> simp [ih] <;> grind
    · by_cases h2 : n ≤ x <;> cases pt <;> simp [h1, h2, ih] <;> grind
theorem addTo_mem (n : Int) (y : Int) (xs : List Int) : y ∈ addTo xs n ↔ y ∈ xs ∨ y = n := by
  have h := addGo_mem n y xs
  unfold addTo
  split
  · rename_i h2
    rw [h, h2]; grind
  · rename_i h2
    rw [List.mem_append, h]; simp [h2]; grind
theorem addGo_len (n : Int) (xs : List Int) : (addGo n xs).1.length ≤ xs.length + (if (addGo n xs).2 then 1 else 0) := by
  induction xs using snocInd with
  | h0 => simp [addGo]
  | h1 xs x ih =>
    rw [addGo_snoc]
    generalize addGo n xs = s at ih
    obtain ⟨o, pt⟩ := s
    simp only [addStep] at ih ⊢
    by_cases h1 : x = n <;> by_cases h2 : n ≤ x <;> cases pt <;> simp [h1, h2] at ih ⊢ <;> omega
theorem addTo_len (xs : List Int) (n : Int) : (addTo xs n).length ≤ xs.length + 1 := by
  have h := addGo_len n xs
  unfold addTo
  split
  · rename_i h2; rw [h2] at h; exact h
  · rename_i h2; simp [h2] at h; simp; omega

set_option maxHeartbeats 1000000 in
theorem l12Add_any (xs : List Int) (n : Int) (v : Value) (w : World) (lo hi : Nat) (h : RSl RInt 1 w lo hi xs [v]) (hhi : hi ≤ w.heap.size) (hn : In64 n) (hl : xs.length ≤ 1048576) :
    Calls Try.prog 73 #[v, .int .i64 n] w (NewSl RInt 1 w (addTo xs n)) := by
  obtain ⟨A, c, rfl⟩ := h.form
  have h64 := Lib.hid h.in64
  go_enter Try.func73, Try.ntmps73
  go_wp2_with fail
  go_loopw [5, 6, 7] (fun v p i wr => ∃ (k : Nat) (o : List Int) (pt : Bool), k ≤ xs.length ∧ i = .int .i64 k ∧ p = .bool pt ∧ addGo n (xs.take k) = (o, pt) ∧ OwnI wr w.heap.size v o ∧ Below w.heap.size w wr) (fun _ _ i _ => xs.length - (intOf i).toNat)
  case atStart => exact ⟨0, [], false, Nat.zero_le _, rfl, rfl, rfl, OwnI.lit0 _ (Nat.le_refl _), (Below.refl _ _).alloc (Nat.le_refl _) _⟩
  case round =>
    obtain ⟨k, o, pt, hk, rfl, rfl, hgo, hown, hb⟩ := hrel
    have hlen : o.length ≤ k + 1 := by
      have := addGo_len n (xs.take k)
      rw [hgo] at this
      simp at this
      cases pt <;> simp at this <;> omega
    have hsz := hb.size
    have HG := Lib.hid hgo; clear hgo
    by_cases hlt : k < xs.length
    · obtain ⟨x, hxk⟩ := some_of_lt hlt
      obtain ⟨b, off, rfl, _, hbb, _, hcell0⟩ := h.ints_at hxk
      have hcell : wr.cell? ⟨b, off + k, none⟩ = some (.int .i64 x) := (hb.cell (p := ⟨b, off + k, none⟩) (by show b < _; omega)).trans hcell0
      have HX := Lib.hid hxk; clear hxk hcell0
      have hnext : addGo n (xs.take (k + 1)) = addStep n (o, pt) x := by rw [take_succ HX.out, addGo_snoc, HG.out]
      have HN := Lib.hid hnext; clear hnext
      by_cases hins : pt = false ∧ n ≤ x
      · obtain ⟨rfl, hnx⟩ := hins
        by_cases hxn : x = n
        · have t1 : (x != n) = false := by rw [bne_eq_false_iff_eq]; exact hxn
          have HXN := Lib.hid hxn; clear hxn
          go_wp2_with (at_builtin; refine app_int rfl (.tmp 25) (.tmp 27) rfl n rfl hown rfl (by omega) hsz ?_; intro v1 w1 hown1 hc1 ha1; have hb1 := hb.trans (own_below hown hc1 hsz); have hcell1 := (own_below hown hc1 hsz).cell (p := ⟨b, off + k, none⟩) (show b < _ by omega); rw [hcell] at hcell1)
          go_roundw
          case rel => exact ⟨k + 1, o ++ [n], true, by omega, by go_num, rfl, by rw [HN.out]; simp [addStep, HXN.out], hown1, hb1⟩
          case measure => simp [intOf]; omega
        · have t1 : (x != n) = true := by rw [bne_iff_ne]; exact hxn
          have HXN := Lib.hid hxn; clear hxn
          go_wp2_with (first
            | (at_builtin; refine app_int rfl (.tmp 25) (.tmp 27) rfl n rfl hown rfl (by omega) hsz ?_; intro v1 w1 hown1 hc1 ha1; have hb1 := hb.trans (own_below hown hc1 hsz); have hcell1 := (own_below hown hc1 hsz).cell (p := ⟨b, off + k, none⟩) (show b < _ by omega); rw [hcell] at hcell1)
            | (at_builtin; refine app_int rfl (.tmp 35) (.tmp 40) rfl x rfl hown1 rfl (by simp; omega) hb1.size ?_; intro v2 w2 hown2 hc2 ha2))
          go_roundw
          case rel => exact ⟨k + 1, o ++ [n] ++ [x], true, by omega, by go_num, rfl, by rw [HN.out]; simp [addStep, HXN.out, hnx], hown2, hb1.trans (own_below hown1 hc2 hb1.size)⟩
          case measure => simp [intOf]; omega
      · have hst : addStep n (o, pt) x = (if x = n then o else o ++ [x], pt || decide (n ≤ x)) := by
          unfold addStep
          cases pt
          · have : ¬ n ≤ x := fun h => hins ⟨rfl, h⟩
            simp [this]
          · simp
        have HST := Lib.hid hst; clear hst
        by_cases hxn : x = n
        · have hpt : pt = true := by
            cases pt
            · exact absurd ⟨rfl, by omega⟩ hins
            · rfl
          subst hpt
          have t1 : (x != n) = false := by rw [bne_eq_false_iff_eq]; exact hxn
          have HXN := Lib.hid hxn; clear hxn
          go_wp2_with fail
          go_roundw
          case rel => exact ⟨k + 1, o, true, by omega, by go_num, rfl, by rw [HN.out, HST.out]; simp [HXN.out], hown, hb⟩
          case measure => simp [intOf]; omega
        · have t1 : (x != n) = true := by rw [bne_iff_ne]; exact hxn
          have HXN := Lib.hid hxn; clear hxn
          have hpt : (pt || decide (n ≤ x)) = pt := by
            cases pt
            · have : ¬ n ≤ x := fun h => hins ⟨rfl, h⟩
              simp [this]
            · rfl
          have HPT := Lib.hid hpt; clear hpt
          cases pt
          · have hnx : ¬ n ≤ x := fun h => hins ⟨rfl, h⟩
            go_wp2_with (at_builtin; refine app_int rfl (.tmp 35) (.tmp 40) rfl x rfl hown rfl (by omega) hsz ?_; intro v2 w2 hown2 hc2 ha2)
            go_roundw
            case rel => exact ⟨k + 1, o ++ [x], false, by omega, by go_num, rfl, by rw [HN.out, HST.out, HPT.out]; simp [HXN.out], hown2, hb.trans (own_below hown hc2 hsz)⟩
            case measure => simp [intOf]; omega
          · go_wp2_with (at_builtin; refine app_int rfl (.tmp 35) (.tmp 40) rfl x rfl hown rfl (by omega) hsz ?_; intro v2 w2 hown2 hc2 ha2)
            go_roundw
            case rel => exact ⟨k + 1, o ++ [x], true, by omega, by go_num, rfl, by rw [HN.out, HST.out, HPT.out]; simp [HXN.out], hown2, hb.trans (own_below hown hc2 hsz)⟩
            case measure => simp [intOf]; omega
    · obtain rfl : k = xs.length := by omega
      have hres : addTo xs n = if pt then o else o ++ [n] := by
        have := HG.out
        rw [List.take_length] at this
        unfold addTo; rw [this]
      have h64' : ∀ y ∈ addTo xs n, In64 y := fun y hy => by
        rcases (addTo_mem n y xs).1 hy with hy | hy
        · exact h64.out y hy
        · rw [hy]; exact hn
      have HR := Lib.hid hres; have H64 := Lib.hid h64'
      clear hres h64'
      cases pt
      · go_wp2_with (at_builtin; refine app_int rfl (.tmp 44) (.tmp 46) rfl n rfl hown rfl (by omega) hsz ?_; intro v2 w2 hown2 hc2 ha2)
        go_ret
        have hR := HR.out
        simp at hR
        rw [← hR] at hown2
        exact ⟨_, rfl, hown2.sl H64.out (Nat.le_refl _), hb.trans (own_below hown hc2 hsz)⟩
      · go_wp2_with fail
        go_ret
        have hR := HR.out
        simp at hR
        rw [← hR] at hown
        exact ⟨_, rfl, hown.sl H64.out (Nat.le_refl _), hb⟩
end Go.Proofs.Ytbaofalpfmfloaa
