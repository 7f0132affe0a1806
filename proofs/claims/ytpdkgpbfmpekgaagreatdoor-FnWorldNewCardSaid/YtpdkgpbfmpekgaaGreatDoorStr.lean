


/- Strings as lists of bytes; letters, codes, names, pads: plain. -/
import Derived.Test.YtpdkgpbfmpekgaaGreatDoorBase
import Derived.Laws.Strings
namespace Go.Proofs.YtpdkgpbfmpekgaaGreatDoor
open Go.RowKit

/-- The bytes of a string. -/
def bs (s : ByteArray) : List Nat := s.data.toList.map UInt8.toNat
theorem bs_len (s : ByteArray) : (bs s).length = s.size := by
  unfold bs; rw [List.length_map, Array.length_toList]; rfl
theorem bs_get {s : ByteArray} {k : Nat} (h : k < s.size) : (bs s)[k]? = some (s[k]'h).toNat := by
  unfold bs
  rw [List.getElem?_map, Array.getElem?_toList]
  have : s.data[k]? = some (s.data[k]'h) := Array.getElem?_eq_getElem h
  rw [this]; rfl
theorem bs_lt {s : ByteArray} : ∀ b ∈ bs s, b < 256 := fun b hb => by
  obtain ⟨u, _, rfl⟩ := List.mem_map.1 hb
  exact u.toNat_lt
theorem bs_inj {s t : ByteArray} (h : bs s = bs t) : s = t := by
  have h1 : s.data.toList = t.data.toList := by
    unfold bs at h
    generalize s.data.toList = a at *
    generalize t.data.toList = b at *
    induction a generalizing b with
    | nil => cases b with
      | nil => rfl
      | cons y b => cases h
    | cons x a ih => cases b with
      | nil => cases h
      | cons y b =>
        simp only [List.map_cons, List.cons.injEq] at h
        rw [UInt8.toNat_inj.1 h.1, ih b h.2]
  have h2 : s.data = t.data := Array.toList_inj.1 h1
  cases s; cases t; simp only at h2; rw [h2]
theorem bs_append (s t : ByteArray) : bs (s ++ t) = bs s ++ bs t := by
  unfold bs
  rw [← List.map_append, ← Array.toList_append]
  congr 2
  simp
theorem bs_extract (s : ByteArray) (a b : Nat) : bs (s.extract a b) = ((bs s).take b).drop a := by
  unfold bs
  simp only [ByteArray.data_extract, Array.toList_extract, List.extract_eq_take_drop]
  rw [← List.map_take, ← List.map_drop]
  congr 1
  rw [List.take_drop]
  by_cases h : a ≤ b
  · congr 2; omega
  · have : b - a = 0 := by omega
    rw [this, List.drop_eq_nil_of_le (by simp; omega), List.drop_eq_nil_of_le (by simp; omega)]

theorem str_ne {s t : ByteArray} (h : ¬ t = s) : (t.toList == s.toList) = false := by
  refine beq_eq_false_iff_ne.2 fun e => h ?_
  rw [ByteArray.toList_eq, ByteArray.toList_eq] at e
  have h2 : t.data = s.data := Array.toList_inj.1 e
  cases s; cases t; simp only at h2; rw [h2]
/-- A letter. -/
def isL (b : Nat) : Bool := decide (97 ≤ b) && decide (b ≤ 122)
/-- A piece. -/
def pieceP (l : List Nat) : Prop := (1 ≤ l.length ∧ l.length ≤ 8) ∧ l.all isL = true
/-- A number of a piece, of its own. -/
def codeL : List Nat → Nat → Nat
  | [], n => n
  | b :: l, n => codeL l (27 * n + (b - 97) + 1)
def code (l : List Nat) : Nat := codeL l 0
def nameL (key : Int) (l : List Nat) : Int := ((code l : Int) * (2 * key + 1) + key * 7919) % 999999999989
def classL (n : Nat) : Nat := if n = 0 ∨ 8 < n then 0 else if n ≤ 2 then 2 else if n ≤ 4 then 4 else 8
def padL (l : List Nat) : List Nat := l ++ List.replicate (classL l.length - l.length) 46
theorem codeL_append : ∀ (a b : List Nat) (n : Nat), codeL (a ++ b) n = codeL b (codeL a n)
  | [], _, _ => rfl
  | x :: a, b, n => by show codeL (a ++ b) _ = codeL b (codeL a _); rw [codeL_append a b]
theorem codeL_lt : ∀ (l : List Nat) (n : Nat), l.all isL = true → codeL l n < (n + 1) * 27 ^ l.length
  | [], n, _ => by show n < _; simp
  | b :: l, n, h => by
    simp only [List.all_cons, Bool.and_eq_true] at h
    have h1 := codeL_lt l (27 * n + (b - 97) + 1) h.2
    have hb : b ≤ 122 := by have := h.1; unfold isL at this; simp at this; exact this.2
    show codeL l _ < _
    refine Nat.lt_of_lt_of_le h1 ?_
    rw [List.length_cons, Nat.pow_succ, Nat.mul_comm (27 ^ l.length) 27, ← Nat.mul_assoc]
    exact Nat.mul_le_mul_right _ (by omega)
theorem code_lt {l : List Nat} (h : pieceP l) : code l < 282429536481 := by
  have h1 := codeL_lt l 0 h.2
  unfold code
  have h2 : 27 ^ l.length ≤ 27 ^ 8 := Nat.pow_le_pow_right (by omega) h.1.2
  have e : (27 : Nat) ^ 8 = 282429536481 := by decide
  omega
theorem code_take {l : List Nat} {k b : Nat} (h : l[k]? = some b) : code (l.take (k + 1)) = 27 * code (l.take k) + (b - 97) + 1 := by
  unfold code
  rw [take_succ h, codeL_append]; rfl
/-- Two pieces have two numbers. -/
theorem codeL_inj : ∀ {a b : List Nat}, a.all isL = true → b.all isL = true → codeL a 0 = codeL b 0 → a = b := by
  intro a
  induction a using snocInd with
  | h0 =>
    intro b _ hb h
    induction b using snocInd with
    | h0 => rfl
    | h1 l x _ => rw [codeL_append] at h; show [] = _; exfalso; have : codeL [x] (codeL l 0) = 27 * codeL l 0 + (x - 97) + 1 := rfl; have h0 : codeL [] 0 = 0 := rfl; omega
  | h1 l x ih =>
    intro b ha hb h
    induction b using snocInd with
    | h0 => rw [codeL_append] at h; exfalso; have : codeL [x] (codeL l 0) = 27 * codeL l 0 + (x - 97) + 1 := rfl; have h0 : codeL [] 0 = 0 := rfl; omega
    | h1 m y _ =>
      rw [List.all_append] at ha hb
      simp only [Bool.and_eq_true, List.all_cons, List.all_nil, Bool.and_true] at ha hb
      rw [codeL_append, codeL_append] at h
      have e1 : codeL [x] (codeL l 0) = 27 * codeL l 0 + (x - 97) + 1 := rfl
      have e2 : codeL [y] (codeL m 0) = 27 * codeL m 0 + (y - 97) + 1 := rfl
      have hx := ha.2; have hy := hb.2
      unfold isL at hx hy
      simp at hx hy
      have : codeL l 0 = codeL m 0 ∧ x = y := by omega
      rw [ih ha.1 hb.1 this.1, this.2]
theorem nameL_range {key : Int} {l : List Nat} : 0 ≤ nameL key l ∧ nameL key l ≤ 999999999988 := by
  unfold nameL; omega
/-- A text without the points behind. -/
def stripN (l : List Nat) : Nat → Nat
  | 0 => 0
  | n + 1 => if l[n]? = some 46 then stripN l n else n + 1
def strip (l : List Nat) : List Nat := l.take (stripN l l.length)
theorem stripN_le (l : List Nat) : ∀ n, stripN l n ≤ n
  | 0 => Nat.le_refl _
  | n + 1 => by
    unfold stripN
    split
    · exact Nat.le_succ_of_le (stripN_le l n)
    · exact Nat.le_refl _
open Classical in
/-- What PadBack gives. -/
noncomputable def padBack (l : List Nat) : Option (List Nat) := if pieceP (strip l) ∧ padL (strip l) = l then some (strip l) else none
theorem classL_le {n : Nat} : classL n ≤ 8 ∧ (n ≤ 8 → n ≤ classL n) := by
  unfold classL; split <;> (try split) <;> (try split) <;> omega
theorem padL_len {l : List Nat} (h : pieceP l) : (padL l).length = classL l.length := by
  unfold padL
  rw [List.length_append, List.length_replicate]
  have := classL_le.2 h.1.2
  omega
/-- A padded piece gives the piece. -/
theorem strip_pad {l : List Nat} (h : pieceP l) : strip (padL l) = l := by
  have key : ∀ m, stripN (padL l) (l.length + m) = l.length ∨ l.length + m > (padL l).length := by
    intro m
    induction m with
    | zero =>
      left
      obtain ⟨k, hk⟩ : ∃ k, l.length = k + 1 := ⟨l.length - 1, by have := h.1.1; omega⟩
      rw [Nat.add_zero, hk]
      unfold stripN
      rw [if_neg]
      unfold padL
      rw [List.getElem?_append_left (by omega)]
      intro e
      have := List.all_eq_true.1 h.2 46 (List.mem_of_getElem? e)
      simp [isL] at this
    | succ m ih =>
      by_cases hlt : l.length + m < (padL l).length
      · rcases ih with ih | ih
        · left
          show stripN (padL l) (l.length + m + 1) = _
          unfold stripN
          rw [if_pos, ih]
          unfold padL at hlt ⊢
          rw [List.length_append, List.length_replicate] at hlt
          rw [List.getElem?_append_right (by omega), List.getElem?_replicate, if_pos (by omega)]
        · omega
      · right; omega
  have hle : l.length ≤ (padL l).length := by unfold padL; simp
  have := key ((padL l).length - l.length)
  rw [Nat.add_sub_cancel' hle] at this
  unfold strip
  rw [this.resolve_right (by omega)]
  unfold padL
  rw [List.take_left]
theorem padBack_pad {l : List Nat} (h : pieceP l) : padBack (padL l) = some l := by
  unfold padBack
  rw [strip_pad h, if_pos ⟨h, rfl⟩]
/-- The string of bytes. -/
def mkStr (l : List Nat) : ByteArray := ⟨(l.map UInt8.ofNat).toArray⟩
theorem bs_mk {l : List Nat} (h : ∀ b ∈ l, b < 256) : bs (mkStr l) = l := by
  unfold bs mkStr
  simp only [List.map_map]
  conv => rhs; rw [← List.map_id l]
  refine List.map_congr_left fun b hb => ?_
  have := h b hb
  simp [UInt8.toNat_ofNat, Nat.mod_eq_of_lt this]
theorem mk_bs (s : ByteArray) : mkStr (bs s) = s := bs_inj (bs_mk bs_lt)
theorem padL_byte {s : ByteArray} : ∀ b ∈ padL (bs s), b < 256 := fun b hb => by
  unfold padL at hb
  rcases List.mem_append.1 hb with h | h
  · exact bs_lt b h
  · have := List.eq_of_mem_replicate h; omega
theorem bs_pad (s : ByteArray) : bs (mkStr (padL (bs s))) = padL (bs s) := bs_mk padL_byte
end Go.Proofs.YtpdkgpbfmpekgaaGreatDoor
