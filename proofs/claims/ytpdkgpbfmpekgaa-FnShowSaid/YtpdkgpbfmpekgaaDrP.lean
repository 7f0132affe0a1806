


/- Draws of pieces. -/
import Derived.Test.YtpdkgpbfmpekgaaPkS
import Derived.Test.YtpdkgpbfmpekgaaRdP
import Derived.Test.YtpdkgpbfmpekgaaStR
import Derived.Test.YtpdkgpbfmpekgaaEm
namespace Go.Proofs.Ytpdkgpbfmpekgaa
open Go.RowKit

def FStr : Flat ByteArray := ⟨1, fun s => [.string s], fun s => s.size ≤ maxLen, fun _ => rfl, fun s u hu => by rw [List.mem_singleton.1 hu]; rfl, by decide⟩
abbrev RStrs : Rep (List ByteArray) := RSlT 9 (RFlat FStr) 1
theorem RStrs.tloc : TLoc RStrs [9] := RSlT.tloc (RFlat.tloc FStr)
theorem elem_str : Elem Try.prog 77 9 1 16 := Elem.mk' Try.underlying77 (z := .string ⟨#[]⟩) (by kernel_rfl) rfl (by decide) (by decide)
theorem str_at {w : World} {lo hi : Nat} {xs : List ByteArray} {A : Option Addr} {n c : Nat} (h : RStrs w lo hi xs [.slice A n c]) {k : Nat} {x : ByteArray} (hk : xs[k]? = some x) :
    ∃ b off, A = some ⟨b, off, none⟩ ∧ lo ≤ b ∧ b < hi ∧ x.size ≤ maxLen ∧ w.cell? ⟨b, off + k, none⟩ = some (.string x) := by
  obtain ⟨b, off, es, rfl, h1, h2, hl, ⟨rfl, h64⟩, hc⟩ := h.1.at_ hk
  exact ⟨b, off, rfl, h1, h2, h64, by simpa using hc 0 _ rfl⟩
theorem Rd.blk {w : World} {lo hi g : Nat} {l : List Int} {p : Nat} (h : Rd w lo hi g l p) : ∃ ds, Blk w g 66 ds := by
  obtain ⟨A, c, hb, _⟩ := h
  exact ⟨_, hb⟩
/-- Strings are kept while a reader goes on. -/
theorem strs_rd {w w' : World} {lo hi g lo' hi' : Nat} {l : List Int} {p : Nat} {xs : List ByteArray} {cs : List Value} (h : RStrs w lo' hi' xs cs) (hr : Rd w lo hi g l p) (hc : Chg (fun b => b = g) w w') : RStrs w' lo' hi' xs cs :=
  RStrs.tloc.chg h hc fun b _ _ ⟨t, ht, ds, hd⟩ e => by
    obtain ⟨ds', hd'⟩ := hr.blk
    subst e
    have := blk_type hd hd'
    rw [List.mem_singleton.1 ht] at this
    exact absurd this (by decide)
theorem short9 {xs : List ByteArray} (h : xs.all (fun s => decide (s.size ≤ 9)) = true) : ∀ s ∈ xs, s.size ≤ 9 := fun s hs => of_decide_eq_true (List.all_eq_true.1 h s hs)
theorem short_good {xs : List ByteArray} (h : xs.all (fun s => decide (s.size ≤ 9)) = true) : ∀ s ∈ xs, FStr.good s := fun s hs => by
  have := short9 h s hs
  show s.size ≤ maxLen
  unfold maxLen; omega
/-- A string of a list. -/
def OfPost (xs : List ByteArray) (w : World) (lo hi g : Nat) (l : List Int) (p : Nat) (e : Ending) (w' : World) : Prop := ∃ s ∈ xs, e = .returned (.string s) ∧ Rd w' lo hi g l (p + 1) ∧ Chg (fun b => b = g) w w'
theorem of_any (xs : List ByteArray) (hn : 0 < xs.length ∧ xs.length ≤ 100) (v : Value) (l : List Int) (g p lo hi lo' hi' : Nat) (w : World) (hr : Rd w lo hi g l p) (hp : p ≤ 1000000) (h : RStrs w lo' hi' xs [v]) :
    Calls Try.prog 31 #[.pointer (some ⟨g, 0, none⟩), v] w (OfPost xs w lo hi g l p) := by
  obtain ⟨A, c, rfl⟩ := h.form
  go_enter Try.func31, Try.ntmps31
  go_wp2_with fail
  refine (pick_any _ _ _ _ _ _ _ hr (by omega)).mono ?_
  rintro e w1 ⟨m, rfl, ⟨_, hm⟩, rd1, hc1⟩
  obtain ⟨q1, q2⟩ := hm (by omega)
  clear hm
  obtain ⟨k, rfl⟩ := Int.eq_ofNat_of_zero_le q1
  obtain ⟨s, hs⟩ := some_of_lt (l := xs) (k := k) (by omega)
  have h1 := strs_rd h hr hc1
  obtain ⟨b, off, rfl, _, _, hsz, hcell⟩ := str_at h1 hs
  have HS := Lib.hid hs; clear hs
  have hk : k < xs.length := by omega
  go_wp2_with fail
  go_ret
  exact ⟨s, List.mem_of_getElem? HS.out, rfl, rd1, hc1⟩
def ShortPost (w : World) (lo hi g : Nat) (l : List Int) (p : Nat) (e : Ending) (w' : World) : Prop := ∃ s q, e = .returned (.string s) ∧ s.size ≤ 9 ∧ Rd w' lo hi g l q ∧ q ≤ p + 3 ∧ Chg (fun b => b = g) w w'
/-- Is a text among such. -/
theorem l12In_any (xs : List ByteArray) (s : ByteArray) (v : Value) (w : World) (lo hi : Nat) (h : RStrs w lo hi xs [v]) (b : Bool) (hb : b = true ↔ s ∈ xs) :
    Calls Try.prog 71 #[v, .string s] w fun e w' => e = .returned (.bool b) ∧ w = w' := by
  have HB := Lib.hid hb; clear hb
  obtain ⟨A, c, rfl⟩ := h.form
  obtain ⟨_, hc, hx⟩ := h.len_
  unfold maxLen at hx
  go_enter Try.func71, Try.ntmps71
  go_wp2_with fail
  go_loop [5] (fun i => ∃ k : Nat, k ≤ xs.length ∧ i = .int .i64 k ∧ s ∉ xs.take k) (fun i => xs.length - (intOf i).toNat)
  case atStart => exact ⟨0, Nat.zero_le _, rfl, by simp⟩
  case round =>
    obtain ⟨k, hk, rfl, hn⟩ := hrel
    have HN := Lib.hid hn; clear hn
    by_cases hlt : k < xs.length
    · obtain ⟨x, hxk⟩ := some_of_lt hlt
      obtain ⟨b1, off, rfl, _, _, _, hcell⟩ := str_at h hxk
      have HX := Lib.hid hxk; clear hxk
      by_cases he : x = s
      · subst he
        have hm := List.mem_of_getElem? HX.out
        have HM := Lib.hid hm; clear hm
        go_wp2_with fail
        go_ret
        exact ⟨ret_bool (by rw [eq_comm, HB.out]; exact HM.out), rfl⟩
      · have t1 := str_ne he
        have hnx : s ∉ xs.take (k + 1) := by
          rw [take_succ HX.out]; simp [HN.out, Ne.symm he]
        have HNX := Lib.hid hnx; clear hnx he
        go_wp2_with fail
        go_round
        case rel => exact ⟨k + 1, by omega, by go_num, HNX.out⟩
        case measure => simp [intOf]; omega
    · obtain rfl : k = xs.length := by omega
      have hm : s ∉ xs := by have := HN.out; rwa [List.take_length] at this
      have HM := Lib.hid hm; clear hm
      go_wp2_with fail
      go_ret
      exact ⟨ret_bool (by rw [eq_comm, ← Bool.not_eq_true, HB.out]; exact HM.out), rfl⟩
/-- A drawn list of short texts. -/
def ShortsPost (w : World) (lo hi g : Nat) (l : List Int) (p n : Nat) (e : Ending) (w' : World) : Prop := ∃ v xs q, e = .returned v ∧ OwnF FStr 9 w' w.heap.size v xs ∧ xs.length ≤ n ∧ (∀ s ∈ xs, s.size ≤ 9) ∧ Rd w' lo hi g l q ∧ q ≤ p + 60 ∧ Chg (fun b => b = g) w w'
end Go.Proofs.Ytpdkgpbfmpekgaa
