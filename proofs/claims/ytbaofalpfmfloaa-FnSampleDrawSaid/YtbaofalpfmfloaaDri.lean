/- impl.SampleDraw; the marks on a list of ints. -/
import Derived.Test.YtbaofalpfmfloaaDrw
import Derived.Test.YtbaofalpfmfloaaSort
namespace Go.Proofs.Ytbaofalpfmfloaa
open Go.RowKit

/-- What a call leaves that makes a slice of ints of its own. -/
def NewOwn (w : World) (xs : List Int) (e : Ending) (w' : World) : Prop := ∃ v, e = .returned v ∧ OwnI w' w.heap.size v xs ∧ Below w.heap.size w w'

theorem start_impl (seed : Int) (m k : Nat) : (seed * ((k : Int) + 1) + 7 * (k : Int) * k + seed / 20) % m = start seed m k := by
  unfold start
  congr 2
  rw [show 7 * (k : Int) * k = (k : Int) * k * 7 from by rw [Int.mul_assoc, Int.mul_comm]]
theorem seven_bd (k : Nat) (hk : k ≤ 20) : 0 ≤ 7 * (k : Int) * k ∧ 7 * (k : Int) * k ≤ 2800 := by
  refine ⟨Int.mul_nonneg (by omega) (by omega), ?_⟩
  exact Int.le_trans (Int.mul_le_mul (show 7 * (k : Int) ≤ 140 by omega) (show (k : Int) ≤ 20 by omega) (by omega) (by omega)) (by omega)

set_option maxHeartbeats 1000000 in
theorem implDraw_any (seed m d : Int) (w : World) : Calls Try.prog 40 #[.int .i64 seed, .int .i64 m, .int .i64 d] w (NewOwn w (sDrawAll seed m d)) := by
  by_cases h : 0 ≤ seed ∧ seed ≤ 999 ∧ 0 ≤ m ∧ m ≤ 20 ∧ 0 ≤ d ∧ d ≤ m
  · have hv : sDrawAll seed m d = sDraw seed m.toNat d.toNat := by unfold sDrawAll; rw [if_pos h]
    rw [hv]; clear hv
    obtain ⟨h1, h2, h3, h4, h5, h6⟩ := h
    obtain ⟨m, rfl⟩ := Int.eq_ofNat_of_zero_le h3
    obtain ⟨d, rfl⟩ := Int.eq_ofNat_of_zero_le h5
    rw [Int.toNat_natCast, Int.toNat_natCast]
    have hsort := sorted_draw seed m d (by omega)
    have HSORT := Lib.hid hsort; clear hsort
    have e1 : decide (seed < 0) = false := decide_eq_false (by omega)
    have e2 : decide (999 < seed) = false := decide_eq_false (by omega)
    have e3 : decide ((m : Int) < 0) = false := decide_eq_false (by omega)
    have e4 : decide (20 < (m : Int)) = false := decide_eq_false (by omega)
    have e5 : decide ((d : Int) < 0) = false := decide_eq_false (by omega)
    have e6 : decide (m < d) = false := decide_eq_false (by omega)
    go_enter Try.func40, Try.ntmps40
    go_wp2_with fail
    go_loopw [7, 34] (fun v i wr => ∃ k : Nat, k ≤ d ∧ i = .int .i64 k ∧ OwnI wr w.heap.size v (iDraw seed m k) ∧ Below w.heap.size w wr) (fun _ i _ => d - (intOf i).toNat)
    case atStart => exact ⟨0, Nat.zero_le _, rfl, OwnI.nil _ _, Below.refl _ _⟩
    case round =>
      obtain ⟨k, hk, rfl, hown, hb⟩ := hrel
      have hlen := iDraw_len seed m k
      have HLEN := Lib.hid hlen; clear hlen
      have hsz := hb.size
      by_cases hlt : k < d
      · obtain ⟨⟨q1, q2⟩, q3, q4⟩ := start_bd seed m k h1 h2 (by omega)
        obtain ⟨q5, q6⟩ := seven_bd k (by omega)
        obtain ⟨s1, s2⟩ := start_in seed m k (by omega)
        have hst := Lib.hid (start_impl seed m k)
        have hnext : iDraw seed m (k + 1) = iDraw seed m k ++ [place (iDraw seed m k) m (start seed m k)] := rfl
        have HN := Lib.hid hnext; clear hnext
        have h64 : ∀ x ∈ iDraw seed m k, In64 x := fun x hx => by
          have := sDraw_bd seed m k (by omega) x ((iDraw_mem seed m k x).1 hx)
          exact ⟨by omega, by omega⟩
        have hr := hown.sl h64 (Nat.le_refl _)
        clear h64
        have hlm : (iDraw seed m k).length < m := by rw [HLEN.out]; omega
        obtain ⟨A, c, rfl⟩ := hr.form
        go_wp2_with fail
        go_loop [9] (fun x => ∃ y : Int, x = .int .i64 y ∧ 0 ≤ y ∧ y < m ∧ place (iDraw seed m k) m (start seed m k) = place (iDraw seed m k) m y) (fun x => gap (iDraw seed m k) m m (intOf x))
        case atStart => exact ⟨start seed m k, by rw [← hst.out], s1, s2, rfl⟩
        case round =>
          obtain ⟨y, rfl, y1, y2, hy⟩ := hrel
          have HY := Lib.hid hy; clear hy
          by_cases hin : y ∈ iDraw seed m k
          · have t1 : decide (y ∈ iDraw seed m k) = true := decide_eq_true hin
            have hstp := place_step (iDraw seed m k) m y y1 y2 hlm hin
            have hg := gap_step (iDraw seed m k) m y y1 y2 hlm hin
            have z1 : 0 ≤ (y + 1) % (m : Int) := Int.emod_nonneg _ (by omega)
            have z2 : (y + 1) % (m : Int) < m := Int.emod_lt_of_pos _ (by omega)
            have HS := Lib.hid hstp; have HG := Lib.hid hg
            clear hstp hg hin
            go_wp2_with fail
            refine (contains_int y (iDraw seed m k) _ _ _ _ _ _ hr).mono ?_
            rintro e w2 ⟨rfl, rfl⟩
            go_wp2_with fail
            go_round
            case rel => exact ⟨(y + 1) % (m : Int), rfl, z1, z2, by rw [HY.out, HS.out]⟩
            case measure => simp only [intOf]; have := HG.out; omega
          · have t1 : decide (y ∈ iDraw seed m k) = false := decide_eq_false hin
            have hpf := place_free (iDraw seed m k) m y y1 y2 hin
            have HP := Lib.hid hpf
            clear hpf hin
            go_wp2_with fail
            refine (contains_int y (iDraw seed m k) _ _ _ _ _ _ hr).mono ?_
            rintro e w2 ⟨rfl, rfl⟩
            go_wp2_with (at_builtin; refine app_int rfl (.tmp 58) (.tmp 60) rfl y rfl hown rfl (by omega) hsz ?_; intro v1 w1 hown1 hc1 ha1)
            go_roundw
            case rel => first | exact ⟨k + 1, by omega, by go_num, by rw [HN.out, HY.out, HP.out]; exact hown1, hb.trans (own_below hown hc1 hsz)⟩ | ((repeat apply Exists.intro); refine ⟨?_, rfl⟩; exact ⟨k + 1, by omega, by go_num, by rw [HN.out, HY.out, HP.out]; exact hown1, hb.trans (own_below hown hc1 hsz)⟩)
            case measure => simp [intOf]; omega
      · obtain rfl : k = d := by omega
        go_wp2_with fail
        refine (sort_own _ _ _ _ hown (by rw [HLEN.out]; omega)).mono ?_
        rintro e w3 ⟨rfl, hs, hc3⟩
        go_wp2_with fail
        go_ret
        refine ⟨_, rfl, ?_, hb.trans (own_below hown hc3 hsz)⟩
        have := HSORT.out
        unfold sorted at hs
        rw [this] at hs
        exact hs
  · have hv : sDrawAll seed m d = [] := by unfold sDrawAll; rw [if_neg h]
    rw [hv]; clear hv
    rcases (by omega : seed < 0 ∨ (0 ≤ seed ∧ 999 < seed) ∨ ((0 ≤ seed ∧ seed ≤ 999) ∧ m < 0) ∨ ((0 ≤ seed ∧ seed ≤ 999) ∧ 0 ≤ m ∧ 20 < m) ∨ ((0 ≤ seed ∧ seed ≤ 999) ∧ (0 ≤ m ∧ m ≤ 20) ∧ d < 0) ∨ ((0 ≤ seed ∧ seed ≤ 999) ∧ (0 ≤ m ∧ m ≤ 20) ∧ 0 ≤ d ∧ m < d)) with g | g | g | g | g | g
    all_goals
      go_enter Try.func40, Try.ntmps40
      go_wp2_with fail
      go_ret
      exact ⟨_, rfl, OwnI.nil _ _, Below.refl _ _⟩

/-- n numbers from k on. -/
def marks (k : Int) : Nat → List Int
  | 0 => []
  | n + 1 => marks k n ++ [k + n]
theorem marks_len (k : Int) : ∀ n : Nat, (marks k n).length = n
  | 0 => rfl
  | n + 1 => by show (marks k n ++ [_]).length = _; rw [List.length_append, marks_len k n]; rfl
theorem marks_get (k : Int) : ∀ (n j : Nat), j < n → (marks k n)[j]? = some (k + j)
  | 0, j, h => by omega
  | n + 1, j, h => by
    show (marks k n ++ [k + (n : Int)])[j]? = _
    by_cases hj : j < n
    · rw [List.getElem?_append_left (by rw [marks_len]; exact hj), marks_get k n j hj]
    · obtain rfl : j = n := by omega
      rw [List.getElem?_append_right (by rw [marks_len]; exact Nat.le_refl _), marks_len]
      simp
theorem marks_set (k : Int) (xs : List Int) (j : Nat) (hj : j < xs.length) : (marks k j ++ xs.drop j).set j (k + j) = marks k (j + 1) ++ xs.drop (j + 1) := by
  rw [List.set_append_right _ _ (by rw [marks_len]; exact Nat.le_refl _), marks_len, Nat.sub_self, List.drop_eq_getElem_cons hj, List.set_cons_zero]
  show _ = marks k j ++ [k + (j : Int)] ++ _
  simp

theorem markIntS_any (xs : List Int) (v : Value) (w : World) (base : Nat) (k : Int) (h : OwnI w base v xs) (hl : xs.length ≤ 1048576) (hk : 0 ≤ k) (hk' : k ≤ 1099511627776) :
    Calls Try.prog 42 #[v, .int .i64 k] w fun e w' => e = .returned (.int .i64 (k + xs.length)) ∧ OwnI w' base v (marks k xs.length) ∧ Chg (fun b => v.ownBlock = some b) w w' := by
  rcases h.2 with ⟨rfl, h0⟩ | ⟨g, cap, cur, rfl, hb, hh, hnc, hcm, hcs, htake⟩
  · have hx : xs = [] := List.eq_nil_of_length_eq_zero h0
    subst hx
    go_enter Try.func42, Try.ntmps42
    go_wp2_with fail
    go_loopw [1, 5] (fun kk i wr => i = .int .i64 0 ∧ kk = .int .i64 k ∧ wr = w) (fun _ _ _ => 0)
    case atStart => exact ⟨rfl, rfl, rfl⟩
    case round =>
      obtain ⟨rfl, rfl, rfl⟩ := hrel
      go_wp2_with fail
      go_ret
      exact ⟨ret_int (by simp), h, Chg.refl _ _⟩
  · go_enter Try.func42, Try.ntmps42
    go_wp2_with fail
    go_loopw [1, 5] (fun kk i wr => ∃ j : Nat, j ≤ xs.length ∧ i = .int .i64 j ∧ kk = .int .i64 (k + j) ∧ OwnI wr base (.slice (some ⟨g, 0, none⟩) xs.length cap) (marks k j ++ xs.drop j) ∧ Chg (fun b => b = g) w wr) (fun _ i _ => xs.length - (intOf i).toNat)
    case atStart => exact ⟨0, Nat.zero_le _, rfl, by simp, by simpa [marks] using h, Chg.refl _ _⟩
    case round =>
      obtain ⟨j, hj, rfl, rfl, hown, hc⟩ := hrel
      have hlen : (marks k j ++ xs.drop j).length = xs.length := by rw [List.length_append, marks_len, List.length_drop]; omega
      by_cases hlt : j < xs.length
      · have hms := marks_set k xs j hlt
        obtain ⟨u, hu⟩ : ∃ u, wr.cell? ⟨g, j, none⟩ = some u := by
          unfold OwnI at hown
          rw [hlen] at hown
          rw [hown.cellAt j (by omega)]
          exact ⟨_, List.getElem?_eq_getElem (by rw [List.length_map, hlen]; exact hlt)⟩
        have hf : wr.frozen? ⟨g, j, none⟩ = false := by
          unfold OwnI at hown
          rw [hlen] at hown
          exact hown.frozenAt j
        have hst : OwnI (wr.setCell ⟨g, j, none⟩ (.int .i64 (k + j))) base (.slice (some ⟨g, 0, none⟩) xs.length cap) (marks k (j + 1) ++ xs.drop (j + 1)) := by
          unfold OwnI at hown ⊢
          rw [← hms, List.length_set, hlen]
          rw [hlen] at hown
          have := (hown.stored j (.int .i64 (k + j))).1
          rw [← List.map_set] at this
          exact this
        have HL := Lib.hid hlen; clear hlen hms
        go_wp2_with fail
        go_roundw
        case rel => first | exact ⟨j + 1, by omega, by go_num, by go_num, hst, hc.setCell (p := ⟨g, j, none⟩) (.inl rfl) _⟩ | ((repeat apply Exists.intro); refine ⟨?_, rfl⟩; exact ⟨j + 1, by omega, by go_num, by go_num, hst, hc.setCell (p := ⟨g, j, none⟩) (.inl rfl) _⟩)
        case measure => simp [intOf]; omega
      · obtain rfl : j = xs.length := by omega
        go_wp2_with fail
        go_ret
        exact ⟨rfl, by simpa using hown, hc.mono fun i _ hi => by subst hi; rfl⟩
theorem heldIntS_any (n : Nat) (v : Value) (w : World) (lo hi : Nat) (k : Int) (h : RSl RInt 1 w lo hi (marks k n) [v]) (hl : n ≤ 1048576) (hk : 0 ≤ k) (hk' : k ≤ 1099511627776) :
    Calls Try.prog 43 #[v, .int .i64 k] w fun e w' => e = .returned (.int .i64 (k + n)) ∧ w = w' := by
  obtain ⟨A, c, rfl⟩ := h.form
  have hlen := marks_len k n
  rw [hlen] at h ⊢
  go_enter Try.func43, Try.ntmps43
  go_wp2_with fail
  go_loop [1, 5] (fun kk i => ∃ j : Nat, j ≤ n ∧ i = .int .i64 j ∧ kk = .int .i64 (k + j)) (fun _ i => n - (intOf i).toNat)
  case atStart => exact ⟨0, Nat.zero_le _, rfl, by simp⟩
  case round =>
    obtain ⟨j, hj, rfl, rfl⟩ := hrel
    by_cases hlt : j < n
    · obtain ⟨b, off, rfl, _, _, _, hcell⟩ := h.ints_at (marks_get k n j hlt)
      go_wp2_with fail
      go_round
      case rel => exact ⟨j + 1, by omega, by go_num, by go_num⟩
      case measure => simp [intOf]; omega
    · obtain rfl : j = n := by omega
      go_wp2_with fail
      go_ret
      exact ⟨rfl, rfl⟩
end Go.Proofs.Ytbaofalpfmfloaa
