/- Drawing without putting back: the plain functions, and spec.SampleDraw. -/
import Derived.Test.YtbaofalpfmfloaaAdd
import Derived.Test.YtbaofalpfmfloaaIn6
import Derived.Test.YtbaofalpfmfloaaRd
namespace Go.Proofs.Ytbaofalpfmfloaa
open Go.RowKit

/-- How many steps from x to the next place that is not taken, at most f. -/
def gap (out : List Int) (m : Int) : Nat → Int → Nat
  | 0, _ => 0
  | f + 1, x => if x ∈ out then gap out m f ((x + 1) % m) + 1 else 0
theorem gap_le (out : List Int) (m : Int) : ∀ (f : Nat) (x : Int), gap out m f x ≤ f
  | 0, _ => Nat.le_refl _
  | f + 1, x => by
    unfold gap
    split
    · have := gap_le out m f ((x + 1) % m); omega
    · omega
theorem gap_stable (out : List Int) (m : Int) : ∀ (f : Nat) (x : Int), gap out m f x < f → gap out m (f + 1) x = gap out m f x
  | 0, _, h => by omega
  | f + 1, x, h => by
    rw [gap.eq_def out m (f + 1 + 1), gap.eq_def out m (f + 1)]
    rw [gap.eq_def] at h
    by_cases hx : x ∈ out
    · simp only [hx, if_true] at h ⊢
      rw [gap_stable out m f _ (by omega)]
    · simp only [hx, if_false]
theorem gap_full (out : List Int) (m : Int) : ∀ (f : Nat) (x : Int), 0 ≤ x → x < m → gap out m f x = f → ∀ j : Nat, j < f → (x + j) % m ∈ out
  | 0, _, _, _, _, j, hj => by omega
  | f + 1, x, h0, h1, h, j, hj => by
    rw [gap.eq_def] at h
    by_cases hx : x ∈ out
    · simp only [hx, if_true] at h
      cases j with
      | zero => simpa [Int.emod_eq_of_lt h0 h1] using hx
      | succ j =>
        have := gap_full out m f ((x + 1) % m) (Int.emod_nonneg _ (by omega)) (Int.emod_lt_of_pos _ (by omega)) (by omega) j (by omega)
        rw [Int.emod_add_emod] at this
        rw [show x + ((j + 1 : Nat) : Int) = x + 1 + j from by omega]
        exact this
    · simp only [hx, if_false] at h; omega
/-- m different numbers want m places. -/
theorem pigeon : ∀ (m : Nat) (out : List Int), (∀ i : Nat, i < m → (i : Int) ∈ out) → m ≤ out.length
  | 0, _, _ => Nat.zero_le _
  | m + 1, out, h => by
    have h1 := pigeon m (out.erase (m : Int)) (fun i hi => by
      rw [List.mem_erase_of_ne (by omega)]; exact h i (by omega))
    rw [List.length_erase_of_mem (h m (by omega))] at h1
    have : 0 < out.length := List.length_pos_of_mem (h m (by omega))
    omega
theorem gap_lt (out : List Int) (m : Nat) (x : Int) (h0 : 0 ≤ x) (h1 : x < m) (hl : out.length < m) : gap out m m x < m := by
  rcases Nat.lt_or_ge (gap out m m x) m with h | h
  · exact h
  · exfalso
    have hle := gap_le out m m x
    have hall := gap_full out m m x h0 h1 (by omega)
    have := pigeon m out (fun i hi => by
      have := hall (((i : Int) - x) % m).toNat (by
        have a := Int.emod_nonneg ((i : Int) - x) (show (m : Int) ≠ 0 by omega)
        have b := Int.emod_lt_of_pos ((i : Int) - x) (show (0 : Int) < m by omega)
        omega)
      rw [Int.toNat_of_nonneg (Int.emod_nonneg _ (by omega)), Int.add_emod_emod] at this
      rw [show x + ((i : Int) - x) = (i : Int) from by omega, Int.emod_eq_of_lt (by omega) (by omega)] at this
      exact this)
    omega
theorem gap_step (out : List Int) (m : Nat) (x : Int) (h0 : 0 ≤ x) (h1 : x < m) (hl : out.length < m) (hx : x ∈ out) : gap out m m x = gap out m m ((x + 1) % m) + 1 := by
  have h := gap_lt out m x h0 h1 hl
  obtain ⟨f, rfl⟩ : ∃ f, m = f + 1 := ⟨m - 1, by omega⟩
  have e : gap out ((f + 1 : Nat) : Int) (f + 1) x = gap out ((f + 1 : Nat) : Int) f ((x + 1) % ((f + 1 : Nat) : Int)) + 1 := by
    rw [gap.eq_def]; simp only [hx, if_true]
  rw [e, gap_stable _ _ _ _ (by omega)]
theorem gap_zero (out : List Int) (m : Int) (f : Nat) (x : Int) (hx : x ∉ out) : gap out m f x = 0 := by
  cases f with
  | zero => rfl
  | succ f => rw [gap.eq_def]; simp only [hx, if_false]
theorem gap_congr {a b : List Int} (h : ∀ y, y ∈ a ↔ y ∈ b) (m : Int) : ∀ (f : Nat) (x : Int), gap a m f x = gap b m f x
  | 0, _ => rfl
  | f + 1, x => by rw [gap.eq_def, gap.eq_def b]; simp only [h x, gap_congr h m f]
/-- The first place from x on that is not taken. -/
def place (out : List Int) (m : Nat) (x : Int) : Int := (x + gap out m m x) % m
theorem place_step (out : List Int) (m : Nat) (x : Int) (h0 : 0 ≤ x) (h1 : x < m) (hl : out.length < m) (hx : x ∈ out) : place out m x = place out m ((x + 1) % m) := by
  unfold place
  rw [gap_step out m x h0 h1 hl hx, Int.emod_add_emod]
  congr 1
  omega
theorem place_free (out : List Int) (m : Nat) (x : Int) (h0 : 0 ≤ x) (h1 : x < m) (hx : x ∉ out) : place out m x = x := by
  unfold place
  rw [gap_zero _ _ _ _ hx]
  simpa using Int.emod_eq_of_lt h0 h1
theorem place_bd (out : List Int) (m : Nat) (x : Int) (hm : 0 < m) : 0 ≤ place out m x ∧ place out m x < m :=
  ⟨Int.emod_nonneg _ (by omega), Int.emod_lt_of_pos _ (by omega)⟩
theorem place_out (out : List Int) (m : Nat) : ∀ (n : Nat) (x : Int), gap out m m x = n → 0 ≤ x → x < m → out.length < m → place out m x ∉ out
  | n, x, hn, h0, h1, hl => by
    by_cases hx : x ∈ out
    · rw [place_step out m x h0 h1 hl hx]
      have hs := gap_step out m x h0 h1 hl hx
      exact place_out out m (gap out m m ((x + 1) % m)) _ rfl (Int.emod_nonneg _ (by omega)) (Int.emod_lt_of_pos _ (by omega)) hl
    · rw [place_free out m x h0 h1 hx]; exact hx
  termination_by n _ => n
  decreasing_by omega
theorem place_congr {a b : List Int} (h : ∀ y, y ∈ a ↔ y ∈ b) (m : Nat) (x : Int) : place a m x = place b m x := by unfold place; rw [gap_congr h]
/-- Where the k-th draw begins to look. -/
def start (seed : Int) (m k : Nat) : Int := (seed * ((k : Int) + 1) + (k : Int) * k * 7 + seed / 20) % m
/-- What is drawn, kept in order. -/
def sDraw (seed : Int) (m : Nat) : Nat → List Int
  | 0 => []
  | k + 1 => addTo (sDraw seed m k) (place (sDraw seed m k) m (start seed m k))
theorem sDraw_len (seed : Int) (m : Nat) : ∀ k : Nat, (sDraw seed m k).length ≤ k
  | 0 => Nat.le_refl _
  | k + 1 => by
    have h1 := sDraw_len seed m k
    have h2 := addTo_len (sDraw seed m k) (place (sDraw seed m k) m (start seed m k))
    show (addTo _ _).length ≤ _
    omega
theorem nodup_le {α : Type} [BEq α] [LawfulBEq α] : ∀ {a b : List α}, a.Nodup → (∀ y ∈ a, y ∈ b) → a.length ≤ b.length
  | [], _, _, _ => Nat.zero_le _
  | x :: t, b, h, hs => by
    obtain ⟨h1, h2⟩ := List.nodup_cons.1 h
    have := nodup_le (a := t) (b := b.erase x) h2 (fun y hy => by
      rw [List.mem_erase_of_ne (fun e => h1 (by rw [← e]; exact hy))]; exact hs y (by simp [hy]))
    have hx := hs x (by simp)
    rw [List.length_erase_of_mem hx] at this
    have := List.length_pos_of_mem hx
    simp; omega
/-! ### What is drawn, in the order in which it is drawn; and in order -/
def ins (n : Int) : List Int → List Int
  | [] => [n]
  | x :: t => if x < n then x :: ins n t else if x = n then x :: t else n :: x :: t
def fin (n : Int) (s : List Int × Bool) : List Int := if s.2 then s.1 else s.1 ++ [n]
theorem fold_true (n : Int) : ∀ (t acc : List Int), (∀ y ∈ t, n < y) → t.foldl (addStep n) (acc, true) = (acc ++ t, true)
  | [], acc, _ => by simp
  | y :: t, acc, h => by
    have hy := h y (by simp)
    rw [List.foldl_cons, show addStep n (acc, true) y = (acc ++ [y], true) from by unfold addStep; simp; omega, fold_true n t (acc ++ [y]) (fun z hz => h z (by simp [hz]))]
    simp
theorem fold_ins (n : Int) : ∀ (xs acc : List Int), xs.Pairwise (· < ·) → fin n (xs.foldl (addStep n) (acc, false)) = acc ++ ins n xs
  | [], acc, _ => by simp [fin, ins]
  | x :: t, acc, h => by
    obtain ⟨h1, h2⟩ := List.pairwise_cons.1 h
    rw [List.foldl_cons]
    by_cases hx : x < n
    · rw [show addStep n (acc, false) x = (acc ++ [x], false) from by unfold addStep; simp [show ¬ n ≤ x by omega]; omega, fold_ins n t (acc ++ [x]) h2]
      simp [ins, hx]
    · by_cases he : x = n
      · subst he
        rw [show addStep x (acc, false) x = (acc ++ [x], true) from by unfold addStep; simp, fold_true x t _ (fun y hy => h1 y hy)]
        simp [fin, ins]
      · rw [show addStep n (acc, false) x = (acc ++ [n] ++ [x], true) from by unfold addStep; simp [he, show n ≤ x by omega], fold_true n t _ (fun y hy => by have := h1 y hy; omega)]
        simp [fin, ins, hx, he]
theorem addTo_ins (xs : List Int) (n : Int) (h : xs.Pairwise (· < ·)) : addTo xs n = ins n xs := by
  have := fold_ins n xs [] h
  rw [List.nil_append] at this
  exact this
theorem ins_mem (n y : Int) : ∀ xs : List Int, y ∈ ins n xs ↔ y = n ∨ y ∈ xs
  | [] => by simp [ins]
  | x :: t => by
    unfold ins
    split
    · simp [ins_mem n y t]; grind
    · split <;> simp <;> grind
theorem ins_sorted (n : Int) : ∀ xs : List Int, xs.Pairwise (· < ·) → (ins n xs).Pairwise (· < ·)
  | [], _ => by simp [ins]
  | x :: t, h => by
    obtain ⟨h1, h2⟩ := List.pairwise_cons.1 h
    unfold ins
    split
    · rename_i hx
      refine List.pairwise_cons.2 ⟨fun y hy => ?_, ins_sorted n t h2⟩
      rcases (ins_mem n y t).1 hy with rfl | hy
      · exact hx
      · exact h1 y hy
    · split
      · exact h
      · refine List.pairwise_cons.2 ⟨fun y hy => ?_, h⟩
        rcases List.mem_cons.1 hy with rfl | hy
        · omega
        · have := h1 y hy; omega
theorem ins_len (n : Int) : ∀ xs : List Int, n ∉ xs → (ins n xs).length = xs.length + 1
  | [], _ => rfl
  | x :: t, h => by
    unfold ins
    split
    · simp [ins_len n t (fun h' => h (by simp [h']))]
    · split
      · rename_i he; exact absurd (by simp [he]) h
      · rfl
theorem sDraw_sorted (seed : Int) (m : Nat) : ∀ k : Nat, (sDraw seed m k).Pairwise (· < ·)
  | 0 => List.Pairwise.nil
  | k + 1 => by
    show (addTo _ _).Pairwise _
    rw [addTo_ins _ _ (sDraw_sorted seed m k)]
    exact ins_sorted _ _ (sDraw_sorted seed m k)
theorem start_in (seed : Int) (m k : Nat) (hm : 0 < m) : 0 ≤ start seed m k ∧ start seed m k < m := ⟨Int.emod_nonneg _ (by omega), Int.emod_lt_of_pos _ (by omega)⟩
theorem sDraw_len' (seed : Int) (m : Nat) : ∀ k : Nat, k ≤ m → (sDraw seed m k).length = k
  | 0, _ => rfl
  | k + 1, hk => by
    have ih := sDraw_len' seed m k (by omega)
    show (addTo _ _).length = _
    rw [addTo_ins _ _ (sDraw_sorted seed m k), ins_len, ih]
    obtain ⟨s1, s2⟩ := start_in seed m k (by omega)
    exact place_out _ _ _ _ rfl s1 s2 (by omega)
theorem sDraw_bd (seed : Int) (m : Nat) : ∀ k : Nat, k ≤ m → ∀ y ∈ sDraw seed m k, 0 ≤ y ∧ y < m
  | 0, _, y, h => by cases h
  | k + 1, hk, y, h => by
    rcases (addTo_mem _ _ _).1 h with h | rfl
    · exact sDraw_bd seed m k (by omega) y h
    · exact place_bd _ _ _ (by omega)
theorem sDraw_sub (seed : Int) (m : Nat) (k : Nat) : ∀ y ∈ sDraw seed m k, y ∈ sDraw seed m (k + 1) := fun _ hy => (addTo_mem _ _ _).2 (.inl hy)
/-- What is drawn, one behind the other. -/
def iDraw (seed : Int) (m : Nat) : Nat → List Int
  | 0 => []
  | k + 1 => iDraw seed m k ++ [place (iDraw seed m k) m (start seed m k)]
theorem iDraw_mem (seed : Int) (m : Nat) : ∀ (k : Nat) (y : Int), y ∈ iDraw seed m k ↔ y ∈ sDraw seed m k
  | 0, _ => Iff.rfl
  | k + 1, y => by
    show y ∈ iDraw seed m k ++ [_] ↔ y ∈ addTo _ _
    rw [addTo_mem, List.mem_append, List.mem_singleton, iDraw_mem seed m k y, place_congr (iDraw_mem seed m k)]
theorem iDraw_len (seed : Int) (m : Nat) : ∀ k : Nat, (iDraw seed m k).length = k
  | 0 => rfl
  | k + 1 => by show (iDraw seed m k ++ [_]).length = _; rw [List.length_append, iDraw_len seed m k]; rfl
theorem sorted_ext : ∀ (a b : List Int), a.Pairwise (· ≤ ·) → b.Pairwise (· < ·) → a.length = b.length → (∀ y, y ∈ a ↔ y ∈ b) → a = b
  | [], [], _, _, _, _ => rfl
  | [], _ :: _, _, _, h, _ => by simp at h
  | _ :: _, [], _, _, h, _ => by simp at h
  | x :: s, y :: t, ha, hb, hl, h => by
    obtain ⟨a1, a2⟩ := List.pairwise_cons.1 ha
    obtain ⟨b1, b2⟩ := List.pairwise_cons.1 hb
    have hxy : x = y := by
      have h1 : x ∈ y :: t := (h x).1 (by simp)
      have h2 : y ∈ x :: s := (h y).2 (by simp)
      rcases List.mem_cons.1 h1 with h1 | h1
      · exact h1
      · rcases List.mem_cons.1 h2 with h2 | h2
        · exact h2.symm
        · have := a1 y h2; have := b1 x h1; omega
    subst hxy
    have hsub : ∀ z ∈ t, z ∈ s := fun z hz => by
      rcases List.mem_cons.1 ((h z).2 (by simp [hz])) with rfl | h'
      · have := b1 z hz; omega
      · exact h'
    have hnot : x ∉ s := by
      intro hx
      have hnd : t.Nodup := b2.imp (fun h => by omega)
      have hxt : (x :: t).Nodup := List.nodup_cons.2 ⟨fun h' => by have := b1 x h'; omega, hnd⟩
      have hall : ∀ z ∈ x :: t, z ∈ s := fun z hz => by
        rcases List.mem_cons.1 hz with rfl | hz
        · exact hx
        · exact hsub z hz
      have := nodup_le hxt hall
      simp at this hl
      omega
    rw [sorted_ext s t a2 b2 (by simpa using hl) (fun z => ⟨fun hz => by
      rcases List.mem_cons.1 ((h z).1 (by simp [hz])) with rfl | h'
      · exact absurd hz hnot
      · exact h', hsub z⟩)]
theorem sorted_draw (seed : Int) (m k : Nat) (hk : k ≤ m) : ((iDraw seed m k).mergeSort fun x y => decide (x ≤ y)) = sDraw seed m k := by
  refine sorted_ext _ _ ?_ (sDraw_sorted seed m k) ?_ fun y => ?_
  · have := List.pairwise_mergeSort (le := fun x y : Int => decide (x ≤ y)) (fun a b c h1 h2 => by simp at *; omega) (fun a b => by simp; omega) (iDraw seed m k)
    exact this.imp (fun h => by simpa using h)
  · rw [List.length_mergeSort, iDraw_len, sDraw_len' seed m k hk]
  · rw [List.mem_mergeSort, iDraw_mem]

/-- All that may be drawn, or nothing. -/
def sDrawAll (seed m d : Int) : List Int := if 0 ≤ seed ∧ seed ≤ 999 ∧ 0 ≤ m ∧ m ≤ 20 ∧ 0 ≤ d ∧ d ≤ m then sDraw seed m.toNat d.toNat else []
theorem start_bd (seed : Int) (_m k : Nat) (h0 : 0 ≤ seed) (h1 : seed ≤ 999) (hk : k ≤ 20) : (0 ≤ seed * ((k : Int) + 1) ∧ seed * ((k : Int) + 1) ≤ 20979) ∧ (0 ≤ (k : Int) * k ∧ (k : Int) * k ≤ 400) := by
  refine ⟨⟨Int.mul_nonneg h0 (by omega), ?_⟩, Int.mul_nonneg (by omega) (by omega), ?_⟩
  · exact Int.le_trans (Int.mul_le_mul h1 (show (k : Int) + 1 ≤ 21 by omega) (by omega) (by omega)) (by omega)
  · exact Int.le_trans (Int.mul_le_mul (show (k : Int) ≤ 20 by omega) (show (k : Int) ≤ 20 by omega) (by omega) (by omega)) (by omega)

set_option maxHeartbeats 1000000 in
theorem specDraw_any (seed m d : Int) (w : World) : Calls Try.prog 39 #[.int .i64 seed, .int .i64 m, .int .i64 d] w (NewSl RInt 1 w (sDrawAll seed m d)) := by
  by_cases h : 0 ≤ seed ∧ seed ≤ 999 ∧ 0 ≤ m ∧ m ≤ 20 ∧ 0 ≤ d ∧ d ≤ m
  · have hv : sDrawAll seed m d = sDraw seed m.toNat d.toNat := by unfold sDrawAll; rw [if_pos h]
    rw [hv]; clear hv
    obtain ⟨h1, h2, h3, h4, h5, h6⟩ := h
    obtain ⟨m, rfl⟩ := Int.eq_ofNat_of_zero_le h3
    obtain ⟨d, rfl⟩ := Int.eq_ofNat_of_zero_le h5
    rw [Int.toNat_natCast, Int.toNat_natCast]
    go_enter Try.func39, Try.ntmps39
    go_wp2_with fail
    refine (l6In_yes _ _ _ h1 h2 _).mono ?_
    rintro e w1 ⟨rfl, rfl⟩
    go_wp2_with fail
    refine (l6In_yes _ _ _ h3 h4 _).mono ?_
    rintro e w1 ⟨rfl, rfl⟩
    go_wp2_with fail
    refine (l6In_yes _ _ _ h5 h6 _).mono ?_
    rintro e w1 ⟨rfl, rfl⟩
    go_wp2_with fail
    go_loopw [7, 8] (fun v i wr => ∃ k : Nat, k ≤ d ∧ i = .int .i64 k ∧ RSl RInt 1 wr w.heap.size wr.heap.size (sDraw seed m k) [v] ∧ Below w.heap.size w wr) (fun _ i _ => d - (intOf i).toNat)
    case atStart => exact ⟨0, Nat.zero_le _, rfl, (OwnI.lit0 w (Nat.le_refl _)).sl (fun x hx => by cases hx) (Nat.le_refl _), (Below.refl _ _).alloc (Nat.le_refl _) _⟩
    case round =>
      obtain ⟨k, hk, rfl, hr, hb⟩ := hrel
      obtain ⟨A, c, rfl⟩ := hr.form
      have hlen := sDraw_len seed m k
      by_cases hlt : k < d
      · obtain ⟨⟨q1, q2⟩, q3, q4⟩ := start_bd seed m k h1 h2 (by omega)
        have s1 : 0 ≤ start seed m k := Int.emod_nonneg _ (by omega)
        have s2 : start seed m k < m := Int.emod_lt_of_pos _ (by omega)
        have hnext : sDraw seed m (k + 1) = addTo (sDraw seed m k) (place (sDraw seed m k) m (start seed m k)) := rfl
        have HN := Lib.hid hnext; clear hnext
        have hpb := place_bd (sDraw seed m k) m (start seed m k) (by omega)
        go_wp2_with fail
        go_loop [9] (fun x => ∃ y : Int, x = .int .i64 y ∧ 0 ≤ y ∧ y < m ∧ place (sDraw seed m k) m (start seed m k) = place (sDraw seed m k) m y) (fun x => gap (sDraw seed m k) m m (intOf x))
        case atStart => exact ⟨start seed m k, rfl, s1, s2, rfl⟩
        case round =>
          obtain ⟨y, rfl, y1, y2, hy⟩ := hrel
          have HY := Lib.hid hy; clear hy
          by_cases hin : y ∈ sDraw seed m k
          · have t1 : decide (y ∈ sDraw seed m k) = true := decide_eq_true hin
            have hst := place_step (sDraw seed m k) m y y1 y2 (by omega) hin
            have hg := gap_step (sDraw seed m k) m y y1 y2 (by omega) hin
            have z1 : 0 ≤ (y + 1) % (m : Int) := Int.emod_nonneg _ (by omega)
            have z2 : (y + 1) % (m : Int) < m := Int.emod_lt_of_pos _ (by omega)
            have HS := Lib.hid hst; have HG := Lib.hid hg
            have HI := Lib.hid hin
            clear hst hg hin
            go_wp2_with fail
            refine (l3Has_any (sDraw seed m k) y _ _ _ _ _ _ hr).mono ?_
            rintro e w2 ⟨rfl, rfl⟩
            go_wp2_with fail
            go_round
            case rel => exact ⟨(y + 1) % m, rfl, z1, z2, by rw [HY.out, HS.out]⟩
            case measure => simp only [intOf]; have := HG.out; omega
          · have t1 : decide (y ∈ sDraw seed m k) = false := decide_eq_false hin
            have hpf := place_free (sDraw seed m k) m y y1 y2 hin
            have HP := Lib.hid hpf
            clear hpf hin
            have h64 : In64 y := ⟨by omega, by omega⟩
            go_wp2_with fail
            refine (l3Has_any (sDraw seed m k) y _ _ _ _ _ _ hr).mono ?_
            rintro e w2 ⟨rfl, rfl⟩
            go_wp2_with fail
            refine (l12Add_any (sDraw seed m k) y _ _ _ _ hr (Nat.le_refl _) h64 (by omega)).mono ?_
            rintro e w3 ⟨v3, rfl, hr3, hb3⟩
            go_wp2_with fail
            go_roundw
            case rel =>
              refine ⟨k + 1, by omega, by go_num, ?_, below_below hb hb3⟩
              rw [HN.out, HY.out, HP.out]
              exact (RSl.loc RInt.loc).wide hr3 hb.size (Nat.le_refl _)
            case measure => simp [intOf]; omega
      · obtain rfl : k = d := by omega
        go_wp2_with fail
        go_ret
        exact ⟨_, rfl, hr, hb⟩
  · have hv : sDrawAll seed m d = [] := by unfold sDrawAll; rw [if_neg h]
    rw [hv]; clear hv
    have hnew : RSl RInt 1 (w.alloc (.cells #[] 3)) w.heap.size (w.alloc (.cells #[] 3)).heap.size [] [.slice (some ⟨w.heap.size, 0, none⟩) 0 0] := (OwnI.lit0 w (Nat.le_refl _)).sl (fun x hx => by cases hx) (Nat.le_refl _)
    have hb : Below w.heap.size w (w.alloc (.cells #[] 3)) := (Below.refl _ _).alloc (Nat.le_refl _) _
    by_cases g1 : 0 ≤ seed ∧ seed ≤ 999
    · by_cases g2 : 0 ≤ m ∧ m ≤ 20
      · have g3 : ¬ (0 ≤ d ∧ d ≤ m) := by omega
        go_enter Try.func39, Try.ntmps39
        go_wp2_with fail
        refine (l6In_yes _ _ _ g1.1 g1.2 _).mono ?_
        rintro e w1 ⟨rfl, rfl⟩
        go_wp2_with fail
        refine (l6In_yes _ _ _ g2.1 g2.2 _).mono ?_
        rintro e w1 ⟨rfl, rfl⟩
        go_wp2_with fail
        refine (l6In_no _ _ _ g3 _).mono ?_
        rintro e w1 ⟨rfl, rfl⟩
        go_wp2_with fail
        go_ret
        exact ⟨_, rfl, hnew, hb⟩
      · go_enter Try.func39, Try.ntmps39
        go_wp2_with fail
        refine (l6In_yes _ _ _ g1.1 g1.2 _).mono ?_
        rintro e w1 ⟨rfl, rfl⟩
        go_wp2_with fail
        refine (l6In_no _ _ _ g2 _).mono ?_
        rintro e w1 ⟨rfl, rfl⟩
        go_wp2_with fail
        go_ret
        exact ⟨_, rfl, hnew, hb⟩
    · go_enter Try.func39, Try.ntmps39
      go_wp2_with fail
      refine (l6In_no _ _ _ g1 _).mono ?_
      rintro e w1 ⟨rfl, rfl⟩
      go_wp2_with fail
      go_ret
      exact ⟨_, rfl, hnew, hb⟩


theorem sDrawAll_yes (seed m d : Int) (h : 0 ≤ seed ∧ seed ≤ 999 ∧ 0 ≤ m ∧ m ≤ 20 ∧ 0 ≤ d ∧ d ≤ m) : sDrawAll seed m d = sDraw seed m.toNat d.toNat := by unfold sDrawAll; rw [if_pos h]
theorem sDrawAll_no (seed m d : Int) (h : ¬ (0 ≤ seed ∧ seed ≤ 999 ∧ 0 ≤ m ∧ m ≤ 20 ∧ 0 ≤ d ∧ d ≤ m)) : sDrawAll seed m d = [] := by unfold sDrawAll; rw [if_neg h]
theorem sDrawAll_len (seed m d : Int) : (sDrawAll seed m d).length ≤ 20 := by
  unfold sDrawAll
  split
  · have := sDraw_len seed m.toNat d.toNat; omega
  · exact Nat.zero_le _
theorem sDrawAll_in64 (seed m d : Int) : ∀ x ∈ sDrawAll seed m d, In64 x := by
  intro x hx
  unfold sDrawAll at hx
  split at hx
  · have := sDraw_bd seed m.toNat d.toNat (by omega) x hx
    exact ⟨by omega, by omega⟩
  · cases hx
/-- Two draws that are together more than all have one in common. -/
theorem draws_meet (s1 s2 : Int) (m a b : Nat) (ha : a ≤ m) (hb : b ≤ m) (hab : m < a + b) : ∃ x ∈ sDraw s1 m a, x ∈ sDraw s2 m b := by
  refine Classical.byContradiction fun hno => ?_
  have hd : ∀ x ∈ sDraw s1 m a, x ∉ sDraw s2 m b := fun x hx hy => hno ⟨x, hx, hy⟩
  have n1 : (sDraw s1 m a).Nodup := (sDraw_sorted s1 m a).imp (fun h => by omega)
  have n2 : (sDraw s2 m b).Nodup := (sDraw_sorted s2 m b).imp (fun h => by omega)
  have hn : (sDraw s1 m a ++ sDraw s2 m b).Nodup := List.nodup_append.2 ⟨n1, n2, fun x hx y hy e => hd x hx (by rw [e]; exact hy)⟩
  have := nodup_le (b := (List.range m).map fun (i : Nat) => (i : Int)) hn (fun y hy => by
    have hy2 : 0 ≤ y ∧ y < m := by
      rcases List.mem_append.1 hy with h | h
      · exact sDraw_bd s1 m a ha y h
      · exact sDraw_bd s2 m b hb y h
    exact List.mem_map.2 ⟨y.toNat, List.mem_range.2 (by omega), by omega⟩)
  rw [List.length_append, sDraw_len' s1 m a ha, sDraw_len' s2 m b hb] at this
  simp at this
  omega

def DrawDrawPost (w : World) (e : Ending) (w' : World) : Prop :=
  ∃ s m d : Int, e = .returned (.tuple #[.int .i64 s, .int .i64 m, .int .i64 d]) ∧ (0 ≤ s ∧ s ≤ 1000) ∧ (0 ≤ m ∧ m ≤ 21) ∧ (0 ≤ d ∧ d ≤ m + 1) ∧ Below w.heap.size w w'
theorem drawDraw_any (l : List Int) (v : Value) (w : World) (h : RSl RByte 1 w 0 w.heap.size l [v]) :
    Calls Try.prog 44 #[v] w (DrawDrawPost w) := by
  obtain ⟨A, c, rfl⟩ := h.form
  go_enter Try.func44, Try.ntmps44
  go_wp2_with fail
  refine (open_any _ _ _ _ _ _ _ h (Nat.le_refl _)).mono ?_
  rintro e w1 ⟨g, rfl, hr1, hg, hb1⟩
  have hS : ∀ i, i = g → w.heap.size ≤ i := fun i hi => by omega
  go_wp2_with fail
  refine (pick_any _ _ _ _ _ _ _ hr1 (by omega)).mono ?_
  rintro e w2 ⟨v1, rfl, ⟨_, hp1⟩, hr2, hc2⟩
  obtain ⟨p1, p2⟩ := hp1 (by omega)
  have b2 := below_chg hb1 hc2 hS
  go_wp2_with fail
  refine (pick_any _ _ _ _ _ _ _ hr2 (by omega)).mono ?_
  rintro e w3 ⟨v2, rfl, ⟨_, hp2⟩, hr3, hc3⟩
  obtain ⟨p3, p4⟩ := hp2 (by omega)
  have b3 := below_chg b2 hc3 hS
  go_wp2_with fail
  refine (pick_any _ _ _ _ _ _ _ hr3 (by omega)).mono ?_
  rintro e w4 ⟨v3, rfl, ⟨_, hp3⟩, hr4, hc4⟩
  obtain ⟨p5, p6⟩ := hp3 (by omega)
  have b4 := below_chg b3 hc4 hS
  clear hp1 hp2 hp3
  go_wp2_with fail
  go_ret3
  exact ⟨v2, v1, v3, rfl, ⟨p3, by omega⟩, ⟨p1, by omega⟩, ⟨p5, by omega⟩, b4⟩
end Go.Proofs.Ytbaofalpfmfloaa
