/- Drawing without putting back: the plain functions, and spec.SampleDraw. -/
import Derived.Test.YtahdphhlmblacaaAdd
import Derived.Test.YtahdphhlmblacaaIn6
import Derived.Test.YtahdphhlmblacaaRd
namespace Go.Proofs.Ytahdphhlmblacaa
open Go.RowKit

/-- How many steps from x to the next place that is not taken, at most f. -/
def gap (out : List Int) (m : Int) : Nat → Int → Nat
  | 0, _ => 0
  | f + 1, x => if x ∈ out then gap out m f ((x + 1) % m) + 1 else 0
theorem gap_le (out : List Int) (m : Int) : ∀ (f : Nat) (x : Int), gap out m f x ≤ f
  | 0, _ => Nat.le_refl _
  | f + 1, x => by
    unfold gap
    split
    · have := gap_le out m f ((x + 1) % m); omega
    · omega
theorem gap_stable (out : List Int) (m : Int) : ∀ (f : Nat) (x : Int), gap out m f x < f → gap out m (f + 1) x = gap out m f x
  | 0, _, h => by omega
  | f + 1, x, h => by
    rw [gap.eq_def out m (f + 1 + 1), gap.eq_def out m (f + 1)]
    rw [gap.eq_def] at h
    by_cases hx : x ∈ out
    · simp only [hx, if_true] at h ⊢
      rw [gap_stable out m f _ (by omega)]
    · simp only [hx, if_false]
theorem gap_full (out : List Int) (m : Int) : ∀ (f : Nat) (x : Int), 0 ≤ x → x < m → gap out m f x = f → ∀ j : Nat, j < f → (x + j) % m ∈ out
  | 0, _, _, _, _, j, hj => by omega
  | f + 1, x, h0, h1, h, j, hj => by
    rw [gap.eq_def] at h
    by_cases hx : x ∈ out
    · simp only [hx, if_true] at h
      cases j with
      | zero => simpa [Int.emod_eq_of_lt h0 h1] using hx
      | succ j =>
        have := gap_full out m f ((x + 1) % m) (Int.emod_nonneg _ (by omega)) (Int.emod_lt_of_pos _ (by omega)) (by omega) j (by omega)
        rw [Int.emod_add_emod] at this
        rw [show x + ((j + 1 : Nat) : Int) = x + 1 + j from by omega]
        exact this
    · simp only [hx, if_false] at h; omega
/-- m different numbers want m places. -/
theorem pigeon : ∀ (m : Nat) (out : List Int), (∀ i : Nat, i < m → (i : Int) ∈ out) → m ≤ out.length
  | 0, _, _ => Nat.zero_le _
  | m + 1, out, h => by
    have h1 := pigeon m (out.erase (m : Int)) (fun i hi => by
      rw [List.mem_erase_of_ne (by omega)]; exact h i (by omega))
    rw [List.length_erase_of_mem (h m (by omega))] at h1
    have : 0 < out.length := List.length_pos_of_mem (h m (by omega))
    omega
theorem gap_lt (out : List Int) (m : Nat) (x : Int) (h0 : 0 ≤ x) (h1 : x < m) (hl : out.length < m) : gap out m m x < m := by
  rcases Nat.lt_or_ge (gap out m m x) m with h | h
  · exact h
  · exfalso
    have hle := gap_le out m m x
    have hall := gap_full out m m x h0 h1 (by omega)
    have := pigeon m out (fun i hi => by
      have := hall (((i : Int) - x) % m).toNat (by
        have a := Int.emod_nonneg ((i : Int) - x) (show (m : Int) ≠ 0 by omega)
        have b := Int.emod_lt_of_pos ((i : Int) - x) (show (0 : Int) < m by omega)
        omega)
      rw [Int.toNat_of_nonneg (Int.emod_nonneg _ (by omega)), Int.add_emod_emod] at this
      rw [show x + ((i : Int) - x) = (i : Int) from by omega, Int.emod_eq_of_lt (by omega) (by omega)] at this
      exact this)
    omega
theorem gap_step (out : List Int) (m : Nat) (x : Int) (h0 : 0 ≤ x) (h1 : x < m) (hl : out.length < m) (hx : x ∈ out) : gap out m m x = gap out m m ((x + 1) % m) + 1 := by
  have h := gap_lt out m x h0 h1 hl
  obtain ⟨f, rfl⟩ : ∃ f, m = f + 1 := ⟨m - 1, by omega⟩
  have e : gap out ((f + 1 : Nat) : Int) (f + 1) x = gap out ((f + 1 : Nat) : Int) f ((x + 1) % ((f + 1 : Nat) : Int)) + 1 := by
    rw [gap.eq_def]; simp only [hx, if_true]
  rw [e, gap_stable _ _ _ _ (by omega)]
theorem gap_zero (out : List Int) (m : Int) (f : Nat) (x : Int) (hx : x ∉ out) : gap out m f x = 0 := by
  cases f with
  | zero => rfl
  | succ f => rw [gap.eq_def]; simp only [hx, if_false]
theorem gap_congr {a b : List Int} (h : ∀ y, y ∈ a ↔ y ∈ b) (m : Int) : ∀ (f : Nat) (x : Int), gap a m f x = gap b m f x
  | 0, _ => rfl
  | f + 1, x => by rw [gap.eq_def, gap.eq_def b]; simp only [h x, gap_congr h m f]
/-- The first place from x on that is not taken. -/
def place (out : List Int) (m : Nat) (x : Int) : Int := (x + gap out m m x) % m
theorem place_step (out : List Int) (m : Nat) (x : Int) (h0 : 0 ≤ x) (h1 : x < m) (hl : out.length < m) (hx : x ∈ out) : place out m x = place out m ((x + 1) % m) := by
  unfold place
  rw [gap_step out m x h0 h1 hl hx, Int.emod_add_emod]
  congr 1
  omega
theorem place_free (out : List Int) (m : Nat) (x : Int) (h0 : 0 ≤ x) (h1 : x < m) (hx : x ∉ out) : place out m x = x := by
  unfold place
  rw [gap_zero _ _ _ _ hx]
  simpa using Int.emod_eq_of_lt h0 h1
theorem place_bd (out : List Int) (m : Nat) (x : Int) (hm : 0 < m) : 0 ≤ place out m x ∧ place out m x < m :=
  ⟨Int.emod_nonneg _ (by omega), Int.emod_lt_of_pos _ (by omega)⟩
theorem place_out (out : List Int) (m : Nat) : ∀ (n : Nat) (x : Int), gap out m m x = n → 0 ≤ x → x < m → out.length < m → place out m x ∉ out
  | n, x, hn, h0, h1, hl => by
    by_cases hx : x ∈ out
    · rw [place_step out m x h0 h1 hl hx]
      have hs := gap_step out m x h0 h1 hl hx
      exact place_out out m (gap out m m ((x + 1) % m)) _ rfl (Int.emod_nonneg _ (by omega)) (Int.emod_lt_of_pos _ (by omega)) hl
    · rw [place_free out m x h0 h1 hx]; exact hx
  termination_by n _ => n
  decreasing_by omega
theorem place_congr {a b : List Int} (h : ∀ y, y ∈ a ↔ y ∈ b) (m : Nat) (x : Int) : place a m x = place b m x := by unfold place; rw [gap_congr h]
/-- Where the k-th draw begins to look. -/
def start (seed : Int) (m k : Nat) : Int := (seed * ((k : Int) + 1) + (k : Int) * k * 7 + seed / 20) % m
/-- What is drawn, kept in order. -/
def sDraw (seed : Int) (m : Nat) : Nat → List Int
  | 0 => []
  | k + 1 => addTo (sDraw seed m k) (place (sDraw seed m k) m (start seed m k))
theorem sDraw_len (seed : Int) (m : Nat) : ∀ k : Nat, (sDraw seed m k).length ≤ k
  | 0 => Nat.le_refl _
  | k + 1 => by
    have h1 := sDraw_len seed m k
    have h2 := addTo_len (sDraw seed m k) (place (sDraw seed m k) m (start seed m k))
    show (addTo _ _).length ≤ _
    omega
/-- All that may be drawn, or nothing. -/
def sDrawAll (seed m d : Int) : List Int := if 0 ≤ seed ∧ seed ≤ 999 ∧ 0 ≤ m ∧ m ≤ 20 ∧ 0 ≤ d ∧ d ≤ m then sDraw seed m.toNat d.toNat else []
theorem start_bd (seed : Int) (_m k : Nat) (h0 : 0 ≤ seed) (h1 : seed ≤ 999) (hk : k ≤ 20) : (0 ≤ seed * ((k : Int) + 1) ∧ seed * ((k : Int) + 1) ≤ 20979) ∧ (0 ≤ (k : Int) * k ∧ (k : Int) * k ≤ 400) := by
  refine ⟨⟨Int.mul_nonneg h0 (by omega), ?_⟩, Int.mul_nonneg (by omega) (by omega), ?_⟩
  · exact Int.le_trans (Int.mul_le_mul h1 (show (k : Int) + 1 ≤ 21 by omega) (by omega) (by omega)) (by omega)
  · exact Int.le_trans (Int.mul_le_mul (show (k : Int) ≤ 20 by omega) (show (k : Int) ≤ 20 by omega) (by omega) (by omega)) (by omega)

set_option maxHeartbeats 1000000 in
theorem specDraw_any (seed m d : Int) (w : World) : Calls Try.prog 39 #[.int .i64 seed, .int .i64 m, .int .i64 d] w (NewSl RInt 1 w (sDrawAll seed m d)) := by
  by_cases h : 0 ≤ seed ∧ seed ≤ 999 ∧ 0 ≤ m ∧ m ≤ 20 ∧ 0 ≤ d ∧ d ≤ m
  · have hv : sDrawAll seed m d = sDraw seed m.toNat d.toNat := by unfold sDrawAll; rw [if_pos h]
    rw [hv]; clear hv
    obtain ⟨h1, h2, h3, h4, h5, h6⟩ := h
    obtain ⟨m, rfl⟩ := Int.eq_ofNat_of_zero_le h3
    obtain ⟨d, rfl⟩ := Int.eq_ofNat_of_zero_le h5
    rw [Int.toNat_natCast, Int.toNat_natCast]
    go_enter Try.func39, Try.ntmps39
    go_wp2_with fail
    refine (l6In_yes _ _ _ h1 h2 _).mono ?_
    rintro e w1 ⟨rfl, rfl⟩
    go_wp2_with fail
    refine (l6In_yes _ _ _ h3 h4 _).mono ?_
    rintro e w1 ⟨rfl, rfl⟩
    go_wp2_with fail
    refine (l6In_yes _ _ _ h5 h6 _).mono ?_
    rintro e w1 ⟨rfl, rfl⟩
    go_wp2_with fail
    go_loopw [7, 8] (fun v i wr => ∃ k : Nat, k ≤ d ∧ i = .int .i64 k ∧ RSl RInt 1 wr w.heap.size wr.heap.size (sDraw seed m k) [v] ∧ Below w.heap.size w wr) (fun _ i _ => d - (intOf i).toNat)
    case atStart => exact ⟨0, Nat.zero_le _, rfl, (OwnI.lit0 w (Nat.le_refl _)).sl (fun x hx => by cases hx) (Nat.le_refl _), (Below.refl _ _).alloc (Nat.le_refl _) _⟩
    case round =>
      obtain ⟨k, hk, rfl, hr, hb⟩ := hrel
      obtain ⟨A, c, rfl⟩ := hr.form
      have hlen := sDraw_len seed m k
      by_cases hlt : k < d
      · obtain ⟨⟨q1, q2⟩, q3, q4⟩ := start_bd seed m k h1 h2 (by omega)
        have s1 : 0 ≤ start seed m k := Int.emod_nonneg _ (by omega)
        have s2 : start seed m k < m := Int.emod_lt_of_pos _ (by omega)
        have hnext : sDraw seed m (k + 1) = addTo (sDraw seed m k) (place (sDraw seed m k) m (start seed m k)) := rfl
        have HN := Lib.hid hnext; clear hnext
        have hpb := place_bd (sDraw seed m k) m (start seed m k) (by omega)
        go_wp2_with fail
        go_loop [9] (fun x => ∃ y : Int, x = .int .i64 y ∧ 0 ≤ y ∧ y < m ∧ place (sDraw seed m k) m (start seed m k) = place (sDraw seed m k) m y) (fun x => gap (sDraw seed m k) m m (intOf x))
        case atStart => exact ⟨start seed m k, rfl, s1, s2, rfl⟩
        case round =>
          obtain ⟨y, rfl, y1, y2, hy⟩ := hrel
          have HY := Lib.hid hy; clear hy
          by_cases hin : y ∈ sDraw seed m k
          · have t1 : decide (y ∈ sDraw seed m k) = true := decide_eq_true hin
            have hst := place_step (sDraw seed m k) m y y1 y2 (by omega) hin
            have hg := gap_step (sDraw seed m k) m y y1 y2 (by omega) hin
            have z1 : 0 ≤ (y + 1) % (m : Int) := Int.emod_nonneg _ (by omega)
            have z2 : (y + 1) % (m : Int) < m := Int.emod_lt_of_pos _ (by omega)
            have HS := Lib.hid hst; have HG := Lib.hid hg
            have HI := Lib.hid hin
            clear hst hg hin
            go_wp2_with fail
            refine (l3Has_any (sDraw seed m k) y _ _ _ _ _ _ hr).mono ?_
            rintro e w2 ⟨rfl, rfl⟩
            go_wp2_with fail
            go_round
            case rel => exact ⟨(y + 1) % m, rfl, z1, z2, by rw [HY.out, HS.out]⟩
            case measure => simp only [intOf]; have := HG.out; omega
          · have t1 : decide (y ∈ sDraw seed m k) = false := decide_eq_false hin
            have hpf := place_free (sDraw seed m k) m y y1 y2 hin
            have HP := Lib.hid hpf
            clear hpf hin
            have h64 : In64 y := ⟨by omega, by omega⟩
            go_wp2_with fail
            refine (l3Has_any (sDraw seed m k) y _ _ _ _ _ _ hr).mono ?_
            rintro e w2 ⟨rfl, rfl⟩
            go_wp2_with fail
            refine (l12Add_any (sDraw seed m k) y _ _ _ _ hr (Nat.le_refl _) h64 (by omega)).mono ?_
            rintro e w3 ⟨v3, rfl, hr3, hb3⟩
            go_wp2_with fail
            go_roundw
            case rel =>
              refine ⟨k + 1, by omega, by go_num, ?_, below_below hb hb3⟩
              rw [HN.out, HY.out, HP.out]
              exact (RSl.loc RInt.loc).wide hr3 hb.size (Nat.le_refl _)
            case measure => simp [intOf]; omega
      · obtain rfl : k = d := by omega
        go_wp2_with fail
        go_ret
        exact ⟨_, rfl, hr, hb⟩
  · have hv : sDrawAll seed m d = [] := by unfold sDrawAll; rw [if_neg h]
    rw [hv]; clear hv
    have hnew : RSl RInt 1 (w.alloc (.cells #[] 3)) w.heap.size (w.alloc (.cells #[] 3)).heap.size [] [.slice (some ⟨w.heap.size, 0, none⟩) 0 0] := (OwnI.lit0 w (Nat.le_refl _)).sl (fun x hx => by cases hx) (Nat.le_refl _)
    have hb : Below w.heap.size w (w.alloc (.cells #[] 3)) := (Below.refl _ _).alloc (Nat.le_refl _) _
    by_cases g1 : 0 ≤ seed ∧ seed ≤ 999
    · by_cases g2 : 0 ≤ m ∧ m ≤ 20
      · have g3 : ¬ (0 ≤ d ∧ d ≤ m) := by omega
        go_enter Try.func39, Try.ntmps39
        go_wp2_with fail
        refine (l6In_yes _ _ _ g1.1 g1.2 _).mono ?_
        rintro e w1 ⟨rfl, rfl⟩
        go_wp2_with fail
        refine (l6In_yes _ _ _ g2.1 g2.2 _).mono ?_
        rintro e w1 ⟨rfl, rfl⟩
        go_wp2_with fail
        refine (l6In_no _ _ _ g3 _).mono ?_
        rintro e w1 ⟨rfl, rfl⟩
        go_wp2_with fail
        go_ret
        exact ⟨_, rfl, hnew, hb⟩
      · go_enter Try.func39, Try.ntmps39
        go_wp2_with fail
        refine (l6In_yes _ _ _ g1.1 g1.2 _).mono ?_
        rintro e w1 ⟨rfl, rfl⟩
        go_wp2_with fail
        refine (l6In_no _ _ _ g2 _).mono ?_
        rintro e w1 ⟨rfl, rfl⟩
        go_wp2_with fail
        go_ret
        exact ⟨_, rfl, hnew, hb⟩
    · go_enter Try.func39, Try.ntmps39
      go_wp2_with fail
      refine (l6In_no _ _ _ g1 _).mono ?_
      rintro e w1 ⟨rfl, rfl⟩
      go_wp2_with fail
      go_ret
      exact ⟨_, rfl, hnew, hb⟩

def DrawFindsPost (w : World) (e : Ending) (w' : World) : Prop :=
  ∃ (v1 v2 : Value) (xs ys : List Int), e = .returned (.tuple #[v1, v2]) ∧ RSl RInt 1 w' w.heap.size w'.heap.size xs [v1] ∧ RSl RInt 1 w' w.heap.size w'.heap.size ys [v2] ∧ Below w.heap.size w w'
theorem drawFinds_any (l : List Int) (v : Value) (w : World) (h : RSl RByte 1 w 0 w.heap.size l [v]) :
    Calls Try.prog 28 #[v] w (DrawFindsPost w) := by
  obtain ⟨A, c, rfl⟩ := h.form
  have L := RSl.loc (sz := 1) RInt.loc
  go_enter Try.func28, Try.ntmps28
  go_wp2_with fail
  refine (open_any _ _ _ _ _ _ _ h (Nat.le_refl _)).mono ?_
  rintro e w1 ⟨g, rfl, hr1, hg, hb1⟩
  have hS : ∀ i, i = g → w.heap.size ≤ i := fun i hi => by omega
  go_wp2_with fail
  refine (pick_any _ _ _ _ _ _ _ hr1 (by omega)).mono ?_
  rintro e w2 ⟨v1, rfl, ⟨_, hp1⟩, hr2, hc2⟩
  obtain ⟨p1, p2⟩ := hp1 (by omega)
  have b2 := below_chg hb1 hc2 hS
  go_wp2_with fail
  refine (pick_any _ _ _ _ _ _ _ hr2 (by omega)).mono ?_
  rintro e w3 ⟨v2, rfl, ⟨_, hp2⟩, hr3, hc3⟩
  have b3 := below_chg b2 hc3 hS
  go_wp2_with fail
  refine (pick_any _ _ _ _ _ _ _ hr3 (by omega)).mono ?_
  rintro e w4 ⟨v3, rfl, ⟨_, hp3⟩, hr4, hc4⟩
  have b4 := below_chg b3 hc4 hS
  go_wp2_with fail
  refine (specDraw_any _ _ _ _).mono ?_
  rintro e w5 ⟨v5, rfl, r5, hb5⟩
  have b5 := below_below b4 hb5
  have hr5 := hr4.chg (Chg.of_below (S := fun _ => False) hb5) (fun _ _ h => h)
  go_wp2_with fail
  refine (pick_any _ _ _ _ _ _ _ hr5 (by omega)).mono ?_
  rintro e w6 ⟨v6, rfl, ⟨_, hp6⟩, hr6, hc6⟩
  have b6 := below_chg b5 hc6 hS
  have hg4 := hr4.lt
  have r6 := L.chg r5 hc6 (fun b q1 q2 => ⟨q2, by omega⟩)
  go_wp2_with fail
  refine (pick_any _ _ _ _ _ _ _ hr6 (by omega)).mono ?_
  rintro e w7 ⟨v7, rfl, ⟨_, hp7⟩, hr7, hc7⟩
  have b7 := below_chg b6 hc7 hS
  have s6 := hc6.size
  have r7 := L.chg r6 hc7 (fun b q1 q2 => ⟨by omega, by omega⟩)
  go_wp2_with fail
  refine (specDraw_any _ _ _ _).mono ?_
  rintro e w8 ⟨v8, rfl, r8, hb8⟩
  have b8 := below_below b7 hb8
  have s7 := hc7.size
  have s8 := hb8.size
  go_wp2_with fail
  go_ret2
  exact ⟨v5, v8, _, _, rfl, L.wide (L.below r7 hb8 (by omega)) b4.size (by omega), L.wide r8 b7.size (Nat.le_refl _), b8⟩
end Go.Proofs.Ytahdphhlmblacaa
