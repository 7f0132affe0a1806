


/- Draws of pieces. -/
import Derived.Test.YtanppokbjladfaaPkS
import Derived.Test.YtanppokbjladfaaRdP
import Derived.Test.YtanppokbjladfaaStR
import Derived.Test.YtanppokbjladfaaEm
namespace Go.Proofs.Ytanppokbjladfaa
open Go.RowKit

def FStr : Flat ByteArray := ⟨1, fun s => [.string s], fun s => s.size ≤ maxLen, fun _ => rfl, fun s u hu => by rw [List.mem_singleton.1 hu]; rfl, by decide⟩
abbrev RStrs : Rep (List ByteArray) := RSlT 9 (RFlat FStr) 1
theorem RStrs.tloc : TLoc RStrs [9] := RSlT.tloc (RFlat.tloc FStr)
theorem elem_str : Elem Try.prog 154 9 1 16 := Elem.mk' Try.underlying154 (z := .string ⟨#[]⟩) (by kernel_rfl) rfl (by decide) (by decide)
theorem str_at {w : World} {lo hi : Nat} {xs : List ByteArray} {A : Option Addr} {n c : Nat} (h : RStrs w lo hi xs [.slice A n c]) {k : Nat} {x : ByteArray} (hk : xs[k]? = some x) :
    ∃ b off, A = some ⟨b, off, none⟩ ∧ lo ≤ b ∧ b < hi ∧ x.size ≤ maxLen ∧ w.cell? ⟨b, off + k, none⟩ = some (.string x) := by
  obtain ⟨b, off, es, rfl, h1, h2, hl, ⟨rfl, h64⟩, hc⟩ := h.1.at_ hk
  exact ⟨b, off, rfl, h1, h2, h64, by simpa using hc 0 _ rfl⟩
theorem Rd.blk {w : World} {lo hi g : Nat} {l : List Int} {p : Nat} (h : Rd w lo hi g l p) : ∃ ds, Blk w g 134 ds := by
  obtain ⟨A, c, hb, _⟩ := h
  exact ⟨_, hb⟩
/-- Strings are kept while a reader goes on. -/
theorem strs_rd {w w' : World} {lo hi g lo' hi' : Nat} {l : List Int} {p : Nat} {xs : List ByteArray} {cs : List Value} (h : RStrs w lo' hi' xs cs) (hr : Rd w lo hi g l p) (hc : Chg (fun b => b = g) w w') : RStrs w' lo' hi' xs cs :=
  RStrs.tloc.chg h hc fun b _ _ ⟨t, ht, ds, hd⟩ e => by
    obtain ⟨ds', hd'⟩ := hr.blk
    subst e
    have := blk_type hd hd'
    rw [List.mem_singleton.1 ht] at this
    exact absurd this (by decide)
theorem short9 {xs : List ByteArray} (h : xs.all (fun s => decide (s.size ≤ 9)) = true) : ∀ s ∈ xs, s.size ≤ 9 := fun s hs => of_decide_eq_true (List.all_eq_true.1 h s hs)
theorem short_good {xs : List ByteArray} (h : xs.all (fun s => decide (s.size ≤ 9)) = true) : ∀ s ∈ xs, FStr.good s := fun s hs => by
  have := short9 h s hs
  show s.size ≤ maxLen
  unfold maxLen; omega
/-- A string of a list. -/
def OfPost (xs : List ByteArray) (w : World) (lo hi g : Nat) (l : List Int) (p : Nat) (e : Ending) (w' : World) : Prop := ∃ s ∈ xs, e = .returned (.string s) ∧ Rd w' lo hi g l (p + 1) ∧ Chg (fun b => b = g) w w'
theorem of_any (xs : List ByteArray) (hn : 0 < xs.length ∧ xs.length ≤ 100) (v : Value) (l : List Int) (g p lo hi lo' hi' : Nat) (w : World) (hr : Rd w lo hi g l p) (hp : p ≤ 1000000) (h : RStrs w lo' hi' xs [v]) :
    Calls Try.prog 98 #[.pointer (some ⟨g, 0, none⟩), v] w (OfPost xs w lo hi g l p) := by
  obtain ⟨A, c, rfl⟩ := h.form
  go_enter Try.func98, Try.ntmps98
  go_wp2_with fail
  refine (pick_any _ _ _ _ _ _ _ hr (by omega)).mono ?_
  rintro e w1 ⟨m, rfl, ⟨_, hm⟩, rd1, hc1⟩
  obtain ⟨q1, q2⟩ := hm (by omega)
  clear hm
  obtain ⟨k, rfl⟩ := Int.eq_ofNat_of_zero_le q1
  obtain ⟨s, hs⟩ := some_of_lt (l := xs) (k := k) (by omega)
  have h1 := strs_rd h hr hc1
  obtain ⟨b, off, rfl, _, _, hsz, hcell⟩ := str_at h1 hs
  have HS := Lib.hid hs; clear hs
  have hk : k < xs.length := by omega
  go_wp2_with fail
  go_ret
  exact ⟨s, List.mem_of_getElem? HS.out, rfl, rd1, hc1⟩
/-- A drawn piece: a short text. -/
def ShortPost (w : World) (lo hi g : Nat) (l : List Int) (p : Nat) (e : Ending) (w' : World) : Prop := ∃ s q, e = .returned (.string s) ∧ s.size ≤ 9 ∧ Rd w' lo hi g l q ∧ q ≤ p + 3 ∧ Chg (fun b => b = g) w w'
theorem l91Piece_any (l : List Int) (g p lo hi : Nat) (w : World) (hr : Rd w lo hi g l p) (hp : p ≤ 100000) :
    Calls Try.prog 150 #[.pointer (some ⟨g, 0, none⟩)] w (ShortPost w lo hi g l p) := by
  go_enter Try.func150, Try.ntmps150
  go_wp2_with fail
  have rl : RStrs (w.alloc (.cells #[.string ⟨#[97]⟩, .string ⟨#[97, 98]⟩, .string ⟨#[97, 98, 99]⟩, .string ⟨#[104, 101, 108, 108, 111]⟩, .string ⟨#[107, 101, 101, 112]⟩, .string ⟨#[97, 97, 97, 97]⟩, .string ⟨#[122, 122, 122, 122, 122, 122, 122, 122]⟩, .string ⟨#[119, 111, 114, 108, 100]⟩, .string ⟨#[98]⟩, .string ⟨#[98, 97, 99, 107, 117, 112]⟩] 9)) w.heap.size (w.alloc (.cells #[.string ⟨#[97]⟩, .string ⟨#[97, 98]⟩, .string ⟨#[97, 98, 99]⟩, .string ⟨#[104, 101, 108, 108, 111]⟩, .string ⟨#[107, 101, 101, 112]⟩, .string ⟨#[97, 97, 97, 97]⟩, .string ⟨#[122, 122, 122, 122, 122, 122, 122, 122]⟩, .string ⟨#[119, 111, 114, 108, 100]⟩, .string ⟨#[98]⟩, .string ⟨#[98, 97, 99, 107, 117, 112]⟩] 9)).heap.size [⟨#[97]⟩, ⟨#[97, 98]⟩, ⟨#[97, 98, 99]⟩, ⟨#[104, 101, 108, 108, 111]⟩, ⟨#[107, 101, 101, 112]⟩, ⟨#[97, 97, 97, 97]⟩, ⟨#[122, 122, 122, 122, 122, 122, 122, 122]⟩, ⟨#[119, 111, 114, 108, 100]⟩, ⟨#[98]⟩, ⟨#[98, 97, 99, 107, 117, 112]⟩] [.slice (some ⟨w.heap.size, 0, none⟩) 10 10] :=
    (OwnF.deep (F := FStr) (own_blk (F := FStr) (Blk.new w 9 #[.string ⟨#[97]⟩, .string ⟨#[97, 98]⟩, .string ⟨#[97, 98, 99]⟩, .string ⟨#[104, 101, 108, 108, 111]⟩, .string ⟨#[107, 101, 101, 112]⟩, .string ⟨#[97, 97, 97, 97]⟩, .string ⟨#[122, 122, 122, 122, 122, 122, 122, 122]⟩, .string ⟨#[119, 111, 114, 108, 100]⟩, .string ⟨#[98]⟩, .string ⟨#[98, 97, 99, 107, 117, 112]⟩]) rfl (Nat.le_refl _) rfl (by simp [maxLen])) (short_good (by decide)) w.heap.size).sl (Nat.le_refl _)
  have hba := below_alloc w (.cells #[.string ⟨#[97]⟩, .string ⟨#[97, 98]⟩, .string ⟨#[97, 98, 99]⟩, .string ⟨#[104, 101, 108, 108, 111]⟩, .string ⟨#[107, 101, 101, 112]⟩, .string ⟨#[97, 97, 97, 97]⟩, .string ⟨#[122, 122, 122, 122, 122, 122, 122, 122]⟩, .string ⟨#[119, 111, 114, 108, 100]⟩, .string ⟨#[98]⟩, .string ⟨#[98, 97, 99, 107, 117, 112]⟩] 9)
  have rdA := hr.alloc (.cells #[.string ⟨#[97]⟩, .string ⟨#[97, 98]⟩, .string ⟨#[97, 98, 99]⟩, .string ⟨#[104, 101, 108, 108, 111]⟩, .string ⟨#[107, 101, 101, 112]⟩, .string ⟨#[97, 97, 97, 97]⟩, .string ⟨#[122, 122, 122, 122, 122, 122, 122, 122]⟩, .string ⟨#[119, 111, 114, 108, 100]⟩, .string ⟨#[98]⟩, .string ⟨#[98, 97, 99, 107, 117, 112]⟩] 9)
  have chA := (Chg.refl (fun b => b = g) w).alloc (.cells #[.string ⟨#[97]⟩, .string ⟨#[97, 98]⟩, .string ⟨#[97, 98, 99]⟩, .string ⟨#[104, 101, 108, 108, 111]⟩, .string ⟨#[107, 101, 101, 112]⟩, .string ⟨#[97, 97, 97, 97]⟩, .string ⟨#[122, 122, 122, 122, 122, 122, 122, 122]⟩, .string ⟨#[119, 111, 114, 108, 100]⟩, .string ⟨#[98]⟩, .string ⟨#[98, 97, 99, 107, 117, 112]⟩] 9)
  generalize w.alloc (.cells #[.string ⟨#[97]⟩, .string ⟨#[97, 98]⟩, .string ⟨#[97, 98, 99]⟩, .string ⟨#[104, 101, 108, 108, 111]⟩, .string ⟨#[107, 101, 101, 112]⟩, .string ⟨#[97, 97, 97, 97]⟩, .string ⟨#[122, 122, 122, 122, 122, 122, 122, 122]⟩, .string ⟨#[119, 111, 114, 108, 100]⟩, .string ⟨#[98]⟩, .string ⟨#[98, 97, 99, 107, 117, 112]⟩] 9) = w0 at *
  refine (of_any _ (by simp) _ _ _ _ _ _ _ _ w0 rdA (by omega) rl).mono ?_
  rintro e w1 ⟨s, hs, rfl, rd1, hc1⟩
  have hs9 : s.size ≤ 9 := short9 (by decide) s hs
  clear hs rl
  replace chA := chA.trans hc1 fun i _ e => e
  go_wp2_with fail
  refine (pick_any _ _ _ _ _ _ 30 rd1 (by omega)).mono ?_
  rintro e w2 ⟨m, rfl, ⟨_, hm⟩, rd2, hc2⟩
  clear hm
  replace chA := chA.trans hc2 fun i _ e => e
  by_cases h0 : m = 0
  · have t1 : (m == 0) = true := beq_iff_eq.2 h0
    go_wp2_with fail
    have rl : RStrs (w2.alloc (.cells #[.string ⟨#[]⟩, .string ⟨#[65]⟩, .string ⟨#[97, 98, 99, 100, 101, 102, 103, 104, 105]⟩, .string ⟨#[97, 46]⟩] 9)) w2.heap.size (w2.alloc (.cells #[.string ⟨#[]⟩, .string ⟨#[65]⟩, .string ⟨#[97, 98, 99, 100, 101, 102, 103, 104, 105]⟩, .string ⟨#[97, 46]⟩] 9)).heap.size [⟨#[]⟩, ⟨#[65]⟩, ⟨#[97, 98, 99, 100, 101, 102, 103, 104, 105]⟩, ⟨#[97, 46]⟩] [.slice (some ⟨w2.heap.size, 0, none⟩) 4 4] :=
      (OwnF.deep (F := FStr) (own_blk (F := FStr) (Blk.new w2 9 #[.string ⟨#[]⟩, .string ⟨#[65]⟩, .string ⟨#[97, 98, 99, 100, 101, 102, 103, 104, 105]⟩, .string ⟨#[97, 46]⟩]) rfl (Nat.le_refl _) rfl (by simp [maxLen])) (short_good (by decide)) w2.heap.size).sl (Nat.le_refl _)
    have rdB := rd2.alloc (.cells #[.string ⟨#[]⟩, .string ⟨#[65]⟩, .string ⟨#[97, 98, 99, 100, 101, 102, 103, 104, 105]⟩, .string ⟨#[97, 46]⟩] 9)
    have chB := chA.alloc (.cells #[.string ⟨#[]⟩, .string ⟨#[65]⟩, .string ⟨#[97, 98, 99, 100, 101, 102, 103, 104, 105]⟩, .string ⟨#[97, 46]⟩] 9)
    generalize w2.alloc (.cells #[.string ⟨#[]⟩, .string ⟨#[65]⟩, .string ⟨#[97, 98, 99, 100, 101, 102, 103, 104, 105]⟩, .string ⟨#[97, 46]⟩] 9) = w3 at *
    refine (of_any _ (by simp) _ _ _ _ _ _ _ _ w3 rdB (by omega) rl).mono ?_
    rintro e w4 ⟨s2, hs2, rfl, rd4, hc4⟩
    have hs29 : s2.size ≤ 9 := short9 (by decide) s2 hs2
    clear hs2 rl
    go_wp2_with fail
    go_ret
    exact ⟨s2, _, rfl, hs29, rd4, by omega, chB.trans hc4 fun i _ e => e⟩
  · have t1 : (m == 0) = false := beq_eq_false_iff_ne.2 h0
    go_wp2_with fail
    go_ret
    exact ⟨s, _, rfl, hs9, rd2, by omega, chA⟩
/-- Is a text among such. -/
theorem l12In_any (xs : List ByteArray) (s : ByteArray) (v : Value) (w : World) (lo hi : Nat) (h : RStrs w lo hi xs [v]) (b : Bool) (hb : b = true ↔ s ∈ xs) :
    Calls Try.prog 151 #[v, .string s] w fun e w' => e = .returned (.bool b) ∧ w = w' := by
  have HB := Lib.hid hb; clear hb
  obtain ⟨A, c, rfl⟩ := h.form
  obtain ⟨_, hc, hx⟩ := h.len_
  unfold maxLen at hx
  go_enter Try.func151, Try.ntmps151
  go_wp2_with fail
  go_loop [5] (fun i => ∃ k : Nat, k ≤ xs.length ∧ i = .int .i64 k ∧ s ∉ xs.take k) (fun i => xs.length - (intOf i).toNat)
  case atStart => exact ⟨0, Nat.zero_le _, rfl, by simp⟩
  case round =>
    obtain ⟨k, hk, rfl, hn⟩ := hrel
    have HN := Lib.hid hn; clear hn
    by_cases hlt : k < xs.length
    · obtain ⟨x, hxk⟩ := some_of_lt hlt
      obtain ⟨b1, off, rfl, _, _, _, hcell⟩ := str_at h hxk
      have HX := Lib.hid hxk; clear hxk
      by_cases he : x = s
      · subst he
        have hm := List.mem_of_getElem? HX.out
        have HM := Lib.hid hm; clear hm
        go_wp2_with fail
        go_ret
        exact ⟨ret_bool (by rw [eq_comm, HB.out]; exact HM.out), rfl⟩
      · have t1 := str_ne he
        have hnx : s ∉ xs.take (k + 1) := by
          rw [take_succ HX.out]; simp [HN.out, Ne.symm he]
        have HNX := Lib.hid hnx; clear hnx he
        go_wp2_with fail
        go_round
        case rel => exact ⟨k + 1, by omega, by go_num, HNX.out⟩
        case measure => simp [intOf]; omega
    · obtain rfl : k = xs.length := by omega
      have hm : s ∉ xs := by have := HN.out; rwa [List.take_length] at this
      have HM := Lib.hid hm; clear hm
      go_wp2_with fail
      go_ret
      exact ⟨ret_bool (by rw [eq_comm, ← Bool.not_eq_true, HB.out]; exact HM.out), rfl⟩
/-- A drawn list of short texts. -/
def ShortsPost (w : World) (lo hi g : Nat) (l : List Int) (p n : Nat) (e : Ending) (w' : World) : Prop := ∃ v xs q, e = .returned v ∧ OwnF FStr 9 w' w.heap.size v xs ∧ xs.length ≤ n ∧ (∀ s ∈ xs, s.size ≤ 9) ∧ Rd w' lo hi g l q ∧ q ≤ p + 60 ∧ Chg (fun b => b = g) w w'
set_option maxHeartbeats 4000000 in
theorem l91Some_any (n : Nat) (hn : 1 ≤ n ∧ n ≤ 5) (l : List Int) (g p lo hi : Nat) (w : World) (hr : Rd w lo hi g l p) (hp : p ≤ 50000) :
    Calls Try.prog 124 #[.pointer (some ⟨g, 0, none⟩), .int .i64 n] w (ShortsPost w lo hi g l p n) := by
  have hrg := hr.lt
  go_enter Try.func124, Try.ntmps124
  go_wp2_with fail
  have rdA := hr.alloc (.cells #[] 9)
  have l0 : OwnF FStr 9 (w.alloc (.cells #[] 9)) w.heap.size (.slice (some ⟨w.heap.size, 0, none⟩) 0 0) [] := OwnF.lit0 (Lit0.new _ _ (Nat.le_refl _))
  have chA := (Chg.refl (fun b => b = g) w).alloc (.cells #[] 9)
  generalize w.alloc (.cells #[] 9) = w0 at *
  refine (pick_any _ _ _ _ _ _ _ rdA (by omega)).mono ?_
  rintro e w1 ⟨m, rfl, ⟨_, hm⟩, rd1, hc1⟩
  obtain ⟨m1, m2⟩ := hm (by omega)
  clear hm
  obtain ⟨k, rfl⟩ := Int.eq_ofNat_of_zero_le m1
  replace l0 := l0.chg hc1 (fun b hb e => by cases hb; exact absurd e (Nat.ne_of_gt hrg))
  replace chA := chA.trans hc1 fun i _ e => e
  clear hc1 rdA
  go_wp2_with fail
  go_loopw [5, 6, 7] (fun oo ii _ wr => ∃ (j q : Nat) (xs : List ByteArray), ii = .int .i64 j ∧ j + xs.length ≤ n ∧ q + 6 * j ≤ p + 50 ∧ OwnF FStr 9 wr w.heap.size oo xs ∧ (∀ s ∈ xs, s.size ≤ 9) ∧ Rd wr lo hi g l q ∧ Chg (fun b => b = g) w wr) (fun _ ii _ _ => (intOf ii).toNat)
  case atStart => exact ⟨1 + k, p + 1, [], by go_num, by simp; omega, by omega, l0, fun s hs => (by cases hs), rd1, chA⟩
  case round =>
    clear l0 chA rd1
    obtain ⟨j, q, xs, rfl, hj, hq, ho, hxs, rd, ch⟩ := hrel
    have HXS := Lib.hid hxs; clear hxs
    obtain ⟨A, c, rfl⟩ := ho.form
    by_cases h0 : j = 0
    · subst h0
      go_wp2_with fail
      go_ret
      exact ⟨_, xs, q, rfl, ho, by omega, HXS.out, rd, by omega, ch⟩
    · have hpos : 0 < j := by omega
      go_wp2_with fail
      refine (l91Piece_any l g q lo hi wr rd (by omega)).mono ?_
      rintro e w2 ⟨s, q2, rfl, hs9, rd2, hq2, hc2⟩
      have z1 := ch.size
      have o2 := ho.chg hc2 (fun b hb e => by have := ho.at_ hb; omega)
      have ch2 := ch.trans hc2 fun i _ e => e
      clear ho rd ch hc2
      have hgood : ∀ x ∈ xs, FStr.good x := fun x hx => by have := HXS.out x hx; show x.size ≤ maxLen; unfold maxLen; omega
      have r2 := (o2.deep hgood w.heap.size).sl (Nat.le_refl _)
      clear hgood
      go_wp2_with fail
      obtain ⟨b, hb⟩ := bool_is (s ∈ xs)
      refine (l12In_any xs s _ w2 _ _ r2 b hb).mono ?_
      rintro e w3 ⟨rfl, rfl⟩
      clear hb
      clear r2
      cases b with
      | false =>
        go_wp2_with (at_builtin; refine app_flat (F := FStr) (v := .slice A xs.length c) rfl (.tmp 28) (.tmp 30) 154 rfl elem_str s rfl o2 rfl rfl (by omega) ch2.size ?_; intro v8 w8 o8 ch8 at8; obtain ⟨A8, c8, rfl⟩ := o8.form; simp only [List.length_append, List.length_cons, List.length_nil, Nat.zero_add] at o8)
        go_roundw
        case rel =>
          refine ⟨j - 1, q2, xs ++ [s], by go_num, by simp; omega, by omega, o8, fun x hx => ?_, rd2.chg ch8 (fun b hb e => by have := (o2.at_ e).1; have := rd2.hi_; omega), ch2.trans ch8 fun b hb e => by have := (o2.at_ e).1; omega⟩
          rcases List.mem_append.1 hx with hx | hx
          · exact HXS.out x hx
          · rw [List.mem_singleton.1 hx]; exact hs9
        case measure => simp [intOf]; omega
      | true =>
        go_wp2_with fail
        refine (pick_any _ _ _ _ _ _ 30 rd2 (by omega)).mono ?_
        rintro e w4 ⟨m, rfl, ⟨_, hm⟩, rd4, hc4⟩
        clear hm
        have z2 := ch2.size
        have o4 := o2.chg hc4 (fun b hb e => by have := o2.at_ hb; omega)
        have ch4 := ch2.trans hc4 fun i _ e => e
        clear o2 rd2 ch2 hc4
        by_cases hm0 : m = 0
        · have t1 : (m == 0) = true := beq_iff_eq.2 hm0
          go_wp2_with (at_builtin; refine app_flat (F := FStr) (v := .slice A xs.length c) rfl (.tmp 28) (.tmp 30) 154 rfl elem_str s rfl o4 rfl rfl (by omega) ch4.size ?_; intro v8 w8 o8 ch8 at8; obtain ⟨A8, c8, rfl⟩ := o8.form; simp only [List.length_append, List.length_cons, List.length_nil, Nat.zero_add] at o8)
          go_roundw
          case rel =>
            refine ⟨j - 1, q2 + 1, xs ++ [s], by go_num, by simp; omega, by omega, o8, fun x hx => ?_, rd4.chg ch8 (fun b hb e => by have := (o4.at_ e).1; have := rd4.hi_; omega), ch4.trans ch8 fun b hb e => by have := (o4.at_ e).1; omega⟩
            rcases List.mem_append.1 hx with hx | hx
            · exact HXS.out x hx
            · rw [List.mem_singleton.1 hx]; exact hs9
          case measure => simp [intOf]; omega
        · have t1 : (m == 0) = false := beq_eq_false_iff_ne.2 hm0
          go_wp2_with fail
          go_roundw
          case rel => exact ⟨j - 1, q2 + 1, xs, by go_num, by omega, by omega, o4, HXS.out, rd4, ch4⟩
          case measure => simp [intOf]; omega
end Go.Proofs.Ytanppokbjladfaa
