


/- The names of a pack, by the program. -/
import Derived.Test.YtanppokbjladfaaPkI
import Derived.Test.YtanppokbjladfaaIpN
namespace Go.Proofs.Ytanppokbjladfaa
open Go.RowKit

def NewIn (w : World) (ys : List Int) (e : Ending) (w' : World) : Prop := ∃ v, e = .returned v ∧ OwnF FInt 3 w' w.heap.size v ys ∧ Below w.heap.size w w'
def namesOf (its : List It) : List Int := its.map fun x => x.n
theorem namesOf_len (its : List It) : (namesOf its).length = its.length := by unfold namesOf; rw [List.length_map]
theorem namesOf_take {its : List It} {k : Nat} {x : It} (h : its[k]? = some x) : namesOf (its.take (k + 1)) = namesOf (its.take k) ++ [x.n] := by
  unfold namesOf
  rw [take_succ h, List.map_append]; rfl
set_option maxHeartbeats 4000000 in
theorem implPackNames_any (no : Int) (its : List It) (v : Value) (w : World) (lo hi : Nat) (hhi : hi ≤ w.heap.size) (h : RIts w lo hi its [v]) (hn : its.length ≤ 100000000) :
    Calls Try.prog 23 #[.agg #[.int .i64 no, v]] w (NewIn w (namesOf its)) := by
  obtain ⟨A, c, rfl⟩ := h.form
  obtain ⟨_, hc, hx⟩ := h.len_
  unfold maxLen at hx
  go_enter Try.func23, Try.ntmps23
  go_wp2_with fail
  have hbwa : Below w.heap.size w (w.alloc (.cells #[.int .i64 no, .slice A its.length c] 37)) := below_alloc _ _
  have b0 : Blk (w.alloc (.cells #[.int .i64 no, .slice A its.length c] 37)) (w.heap.size) 37 #[.int .i64 no, .slice A its.length c] := by
    have hk := Blk.new w 37 #[.int .i64 no, .slice A its.length c]
    exact hk
  have hswa : w.heap.size + 1 ≤ (w.alloc (.cells #[.int .i64 no, .slice A its.length c] 37)).heap.size := by simp only [World.size_alloc]; omega
  generalize (w.alloc (.cells #[.int .i64 no, .slice A its.length c] 37)) = wa at *
  have cb0 := b0.cell
  have fb0 := b0.frozen
  go_loopw [3, 9] (fun oo ii wr => ∃ k : Nat, k ≤ its.length ∧ ii = .int .i64 k ∧ OwnF FInt 3 wr w.heap.size oo (namesOf (its.take k)) ∧ Below w.heap.size w wr) (fun oo ii _ => its.length - (intOf ii).toNat)
  case atStart => exact ⟨0, Nat.zero_le _, rfl, OwnF.nil _ _ _, hbwa⟩
  case round =>
    clear b0 cb0 fb0 hbwa
    obtain ⟨k, hk, rfl, ho, hbr⟩ := hrel
    obtain ⟨Ao, co, rfl⟩ := ho.form
    by_cases hlt : k < its.length
    · obtain ⟨y, hyk⟩ := some_of_lt hlt
      have hl := namesOf_len (its.take k)
      rw [List.length_take, Nat.min_eq_left hk] at hl
      have hstep := namesOf_take hyk
      have HST := Lib.hid hstep; clear hstep
      obtain ⟨b2, off2, rfl, _, _, hy64, cn, cb⟩ := it_at (RIts.tloc.below h hbr hhi) hyk
      have HY := Lib.hid hyk; clear hyk
      revert hl HST ho
      generalize namesOf (its.take k) = L
      intro ho hl HST
      have HL := Lib.hid hl; clear hl
      have ax := below_alloc wr (.cells #[.int .i64 y.n, .string y.b] 44)
      replace ho := ho.below ax
      replace hbr := below_below hbr ax
      have HO := Lib.hid ho; clear ho
      clear ax
      have HSZ : Hid ((wr.alloc (.cells #[.int .i64 y.n, .string y.b] 44)).heap.size = wr.heap.size + 1) := Lib.hid (by simp)
      go_wp2_with (at_builtin; refine app_flat (F := FInt) (v := .slice Ao L.length co) rfl (.tmp 13) (.tmp 16) 41 rfl elem_int y.n rfl HO.out (congrArg (fun n => Value.slice (some ⟨n, 0, none⟩) 1 1) HSZ.out.symm) rfl (by have := HL.out; omega) hbr.size ?_; intro v8 w8 o8 ch8 at8; obtain ⟨A8, c8, rfl⟩ := o8.form; simp only [List.length_append, List.length_cons, List.length_nil, Nat.zero_add] at o8)
      go_roundw
      case rel => exact ⟨k + 1, by omega, by go_num, by rw [HST.out]; exact o8, hbr.trans (ch8.below hbr.size fun i hi hs => by have := (HO.out.at_ hs).1; omega)⟩
      case measure => simp [intOf]; omega
    · obtain rfl : k = its.length := by omega
      rw [List.take_length] at ho ⊢
      go_wp2_with fail
      go_ret
      exact ⟨_, rfl, ho, hbr⟩
/-- The last of the packs that hold a name. -/
def lastOf (l : List Pk) (n : Int) : Int := l.foldl (fun a p => if n ∈ namesOf p.its then p.no else a) 0
theorem lastOf_nil (n : Int) : lastOf [] n = 0 := rfl
theorem lastOf_take {l : List Pk} {j : Nat} {p : Pk} (h : l[j]? = some p) (n : Int) : lastOf (l.take (j + 1)) n = if n ∈ namesOf p.its then p.no else lastOf (l.take j) n := by
  unfold lastOf
  rw [take_succ h, List.foldl_append]; rfl
theorem lastOf_snoc (l : List Pk) (p : Pk) (n : Int) : lastOf (l ++ [p]) n = if n ∈ namesOf p.its then p.no else lastOf l n := by
  unfold lastOf
  rw [List.foldl_append]; rfl
theorem find_spotsP {n no : Int} (h0 : ¬ no = 0) : ∀ (its : List It), findS n (putsS (spotsP ⟨no, its⟩) []) = if n ∈ namesOf its then no else 0
  | [] => rfl
  | x :: its => by
    have e : spotsP ⟨no, x :: its⟩ = ⟨x.n, no⟩ :: spotsP ⟨no, its⟩ := rfl
    have hn : nzS (spotsP ⟨no, its⟩) := fun s hs => by
      obtain ⟨y, _, rfl⟩ := List.mem_map.1 hs
      exact h0
    have e2 : putsS (⟨x.n, no⟩ :: spotsP ⟨no, its⟩) [] = putsS (spotsP ⟨no, its⟩) [⟨x.n, no⟩] := rfl
    rw [e, e2, find_putsAny _ _ hn, find_spotsP h0 its]
    have e3 : findS n [⟨x.n, no⟩] = if x.n = n then no else 0 := rfl
    rw [e3]
    have e4 : namesOf (x :: its) = x.n :: namesOf its := rfl
    rw [e4]
    by_cases h : n ∈ namesOf its
    · rw [if_pos h, if_neg h0, if_pos (List.mem_cons_of_mem _ h)]
    · rw [if_neg h, if_pos rfl]
      by_cases hx : x.n = n
      · rw [if_pos hx, if_pos (by rw [hx]; exact List.mem_cons_self)]
      · rw [if_neg hx, if_neg (by
          intro hm
          rcases List.mem_cons.1 hm with h1 | h1
          · exact hx h1.symm
          · exact h h1)]
theorem find_last {n : Int} (l : List Pk) : (∀ s ∈ spots l, spP s) → findS n (putsS (spots l) []) = lastOf l n := by
  refine snocInd (P := fun l => (∀ s ∈ spots l, spP s) → findS n (putsS (spots l) []) = lastOf l n) (fun _ => rfl) (fun l p ih h => ?_) l
  have e : spots (l ++ [p]) = spots l ++ spotsP p := by unfold spots; rw [List.flatMap_append]; simp
  have hl : ∀ s ∈ spots l, spP s := fun s hs => h s (by rw [e]; exact List.mem_append_left _ hs)
  have hp : nzS (spotsP p) := fun s hs => by have := h s (by rw [e]; exact List.mem_append_right _ hs); unfold spP at this; omega
  rw [e, puts_app, find_putsAny _ _ hp, ih hl, lastOf_snoc]
  by_cases h0 : p.no = 0
  · have he : p.its = [] := by
      cases hi : p.its with
      | nil => rfl
      | cons x t => exact absurd h0 (hp ⟨x.n, p.no⟩ (by unfold spotsP; rw [hi]; simp))
    have e5 : spotsP p = [] := by unfold spotsP; rw [he]; rfl
    rw [e5, he]
    rfl
  · rw [show spotsP p = spotsP ⟨p.no, p.its⟩ from rfl, find_spotsP h0]
    by_cases hm : n ∈ namesOf p.its
    · rw [if_pos hm, if_neg h0, if_pos hm]
    · rw [if_neg hm, if_pos rfl, if_neg hm]
end Go.Proofs.Ytanppokbjladfaa
