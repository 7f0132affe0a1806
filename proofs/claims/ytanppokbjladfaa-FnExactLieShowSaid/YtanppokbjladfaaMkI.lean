


/- Marks on rows of ints. -/
import Derived.Test.YtanppokbjladfaaMk
namespace Go.Proofs.Ytanppokbjladfaa
open Go.RowKit

/-- n numbers from k on. -/
def marks (k : Int) : Nat → List Int
  | 0 => []
  | n + 1 => marks k n ++ [k + n]
theorem marks_len (k : Int) : ∀ n : Nat, (marks k n).length = n
  | 0 => rfl
  | n + 1 => by show (marks k n ++ [_]).length = _; rw [List.length_append, marks_len k n]; rfl
theorem marks_get (k : Int) : ∀ (n j : Nat), j < n → (marks k n)[j]? = some (k + j)
  | 0, j, h => by omega
  | n + 1, j, h => by
    show (marks k n ++ [k + (n : Int)])[j]? = _
    by_cases hj : j < n
    · rw [List.getElem?_append_left (by rw [marks_len]; exact hj), marks_get k n j hj]
    · obtain rfl : j = n := by omega
      rw [List.getElem?_append_right (by rw [marks_len]; exact Nat.le_refl _), marks_len]
      simp
theorem marks_set (k : Int) (xs : List Int) (j : Nat) (hj : j < xs.length) : (marks k j ++ xs.drop j).set j (k + j) = marks k (j + 1) ++ xs.drop (j + 1) := by
  rw [List.set_append_right _ _ (by rw [marks_len]; exact Nat.le_refl _), marks_len, Nat.sub_self, List.drop_eq_getElem_cons hj, List.set_cons_zero]
  show _ = marks k j ++ [k + (j : Int)] ++ _
  simp

theorem markIntS_any (xs : List Int) (v : Value) (w : World) (base : Nat) (k : Int) (h : OwnI w base v xs) (hl : xs.length ≤ 1048576) (hk : 0 ≤ k) (hk' : k ≤ 1099511627776) :
    Calls Try.prog 145 #[v, .int .i64 k] w fun e w' => e = .returned (.int .i64 (k + xs.length)) ∧ OwnI w' base v (marks k xs.length) ∧ Chg (fun b => v.ownBlock = some b) w w' := by
  rcases h.2 with ⟨rfl, h0⟩ | ⟨g, cap, cur, rfl, hb, hh, hnc, hcm, hcs, htake⟩
  · have hx : xs = [] := List.eq_nil_of_length_eq_zero h0
    subst hx
    go_enter Try.func145, Try.ntmps145
    go_wp2_with fail
    go_loopw [1, 5] (fun kk i wr => i = .int .i64 0 ∧ kk = .int .i64 k ∧ wr = w) (fun _ _ _ => 0)
    case atStart => exact ⟨rfl, rfl, rfl⟩
    case round =>
      obtain ⟨rfl, rfl, rfl⟩ := hrel
      go_wp2_with fail
      go_ret
      exact ⟨ret_int (by simp), h, Chg.refl _ _⟩
  · go_enter Try.func145, Try.ntmps145
    go_wp2_with fail
    go_loopw [1, 5] (fun kk i wr => ∃ j : Nat, j ≤ xs.length ∧ i = .int .i64 j ∧ kk = .int .i64 (k + j) ∧ OwnI wr base (.slice (some ⟨g, 0, none⟩) xs.length cap) (marks k j ++ xs.drop j) ∧ Chg (fun b => b = g) w wr) (fun _ i _ => xs.length - (intOf i).toNat)
    case atStart => exact ⟨0, Nat.zero_le _, rfl, by simp, by simpa [marks] using h, Chg.refl _ _⟩
    case round =>
      obtain ⟨j, hj, rfl, rfl, hown, hc⟩ := hrel
      have hlen : (marks k j ++ xs.drop j).length = xs.length := by rw [List.length_append, marks_len, List.length_drop]; omega
      by_cases hlt : j < xs.length
      · have hms := marks_set k xs j hlt
        obtain ⟨u, hu⟩ : ∃ u, wr.cell? ⟨g, j, none⟩ = some u := by
          unfold OwnI at hown
          rw [hlen] at hown
          rw [hown.cellAt j (by omega)]
          exact ⟨_, List.getElem?_eq_getElem (by rw [List.length_map, hlen]; exact hlt)⟩
        have hf : wr.frozen? ⟨g, j, none⟩ = false := by
          unfold OwnI at hown
          rw [hlen] at hown
          exact hown.frozenAt j
        have hst : OwnI (wr.setCell ⟨g, j, none⟩ (.int .i64 (k + j))) base (.slice (some ⟨g, 0, none⟩) xs.length cap) (marks k (j + 1) ++ xs.drop (j + 1)) := by
          unfold OwnI at hown ⊢
          rw [← hms, List.length_set, hlen]
          rw [hlen] at hown
          have := (hown.stored j (.int .i64 (k + j))).1
          rw [← List.map_set] at this
          exact this
        have HL := Lib.hid hlen; clear hlen hms
        go_wp2_with fail
        go_roundw
        case rel => first | exact ⟨j + 1, by omega, by go_num, by go_num, hst, hc.setCell (p := ⟨g, j, none⟩) (.inl rfl) _⟩ | ((repeat apply Exists.intro); refine ⟨?_, rfl⟩; exact ⟨j + 1, by omega, by go_num, by go_num, hst, hc.setCell (p := ⟨g, j, none⟩) (.inl rfl) _⟩)
        case measure => simp [intOf]; omega
      · obtain rfl : j = xs.length := by omega
        go_wp2_with fail
        go_ret
        exact ⟨rfl, by simpa using hown, hc.mono fun i _ hi => by subst hi; rfl⟩
theorem heldIntS_any (n : Nat) (v : Value) (w : World) (lo hi : Nat) (k : Int) (h : RSl RInt 1 w lo hi (marks k n) [v]) (hl : n ≤ 1048576) (hk : 0 ≤ k) (hk' : k ≤ 1099511627776) :
    Calls Try.prog 146 #[v, .int .i64 k] w fun e w' => e = .returned (.int .i64 (k + n)) ∧ w = w' := by
  obtain ⟨A, c, rfl⟩ := h.form
  have hlen := marks_len k n
  rw [hlen] at h ⊢
  go_enter Try.func146, Try.ntmps146
  go_wp2_with fail
  go_loop [1, 5] (fun kk i => ∃ j : Nat, j ≤ n ∧ i = .int .i64 j ∧ kk = .int .i64 (k + j)) (fun _ i => n - (intOf i).toNat)
  case atStart => exact ⟨0, Nat.zero_le _, rfl, by simp⟩
  case round =>
    obtain ⟨j, hj, rfl, rfl⟩ := hrel
    by_cases hlt : j < n
    · obtain ⟨b, off, rfl, _, _, _, hcell⟩ := h.ints_at (marks_get k n j hlt)
      go_wp2_with fail
      go_round
      case rel => exact ⟨j + 1, by omega, by go_num, by go_num⟩
      case measure => simp [intOf]; omega
    · obtain rfl : j = n := by omega
      go_wp2_with fail
      go_ret
      exact ⟨rfl, rfl⟩
end Go.Proofs.Ytanppokbjladfaa
