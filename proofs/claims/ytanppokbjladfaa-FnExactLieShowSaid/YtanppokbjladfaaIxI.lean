


/- The program's indexes: trees of lists, merged, looked up. -/
import Derived.Test.YtanppokbjladfaaIxM
namespace Go.Proofs.Ytanppokbjladfaa
open Go.RowKit

/-- Lists, each in a slice that can be read. -/
def SlAll (w : World) (lo hi : Nat) (ls : List (Value × List Sp)) : Prop := ∀ p ∈ ls, RSl RSp 2 w lo hi p.2 [p.1]
theorem SlAll.below {w w' : World} {lo hi : Nat} {ls : List (Value × List Sp)} (h : SlAll w lo hi ls) (hb : Below w.heap.size w w') (hhi : hi ≤ w.heap.size) : SlAll w' lo hi ls := fun p hp => sl_keep RSp.loc (h p hp) hb hhi
def allSp (ls : List (Value × List Sp)) : List Sp := (ls.map Prod.snd).flatten
theorem allSp_snoc (ls : List (Value × List Sp)) (p : Value × List Sp) : allSp (ls ++ [p]) = allSp ls ++ p.2 := by simp [allSp]
/-- The tree that has been built. -/
structure TreeIs (w : World) (base : Nat) (t : Tr) (l : List Sp) : Prop where
  tin : Tin w t
  nd : t.blocks.Nodup
  list : t.list = putsS l []
  at_ : ∀ b ∈ t.blocks, base ≤ b
theorem TreeIs.below {w w' : World} {base : Nat} {t : Tr} {l : List Sp} (h : TreeIs w base t l) (hb : Below w.heap.size w w') : TreeIs w' base t l := ⟨h.tin.below hb, h.nd, h.list, h.at_⟩
theorem TreeIs.asc {w : World} {base : Nat} {t : Tr} {l : List Sp} (h : TreeIs w base t l) : ascS t.list := by rw [h.list]; exact putsS_asc List.Pairwise.nil
theorem putsS_mem : ∀ {a l : List Sp} {x : Sp}, x ∈ putsS a l → x ∈ a ∨ x ∈ l
  | [], _, _, h => .inr h
  | s :: a, l, x, h => by
    have h' : x ∈ putsS a (putS s l) := h
    rcases putsS_mem h' with h | h
    · exact .inl (by simp [h])
    · rcases putS_mem h with rfl | h
      · exact .inl (by simp)
      · exact .inr h
theorem TreeIs.in64 {w : World} {base : Nat} {t : Tr} {l : List Sp} (h : TreeIs w base t l) (hl : ∀ x ∈ l, In64 x.n) : ∀ y ∈ t.list, In64 y.n := fun y hy => by
  rw [h.list] at hy
  rcases putsS_mem hy with h | h
  · exact hl y h
  · cases h
theorem TreeIs.size {w : World} {base : Nat} {t : Tr} {l : List Sp} (h : TreeIs w base t l) : t.size ≤ l.length := by
  rw [← Tr.list_len, h.list]
  have := putsS_len (a := l) (l := [])
  simpa using this
theorem sp_in64 {w : World} {lo hi : Nat} {xs : List Sp} {v : Value} (h : RSl RSp 2 w lo hi xs [v]) : ∀ x ∈ xs, In64 x.n ∧ In64 x.p := RSl.good (F := FSp) h
set_option maxHeartbeats 4000000 in
theorem treeOf_any (ls : List (Value × List Sp)) (g c : Nat) (w : World) (lo hi : Nat) (hhi : hi ≤ w.heap.size) (hk : Blk w g 24 (ls.map Prod.fst).toArray) (hs : SlAll w lo hi ls) (hn : ls.length ≤ 1000) (hc : ls.length ≤ c) (hc2 : c ≤ 1000) :
    Calls Try.prog 47 #[.slice (some ⟨g, 0, none⟩) ls.length c] w fun e w' => ∃ t : Tr, e = .returned t.ptr ∧ TreeIs w' w.heap.size t (allSp ls) ∧ Below w.heap.size w w' := by
  have hg := hk.lt
  go_enter Try.func47, Try.ntmps47
  go_wp2_with fail
  go_loopw [3, 10] (fun rr ii wr => ∃ (k : Nat) (t : Tr), k ≤ ls.length ∧ rr = t.ptr ∧ ii = .int .i64 k ∧ TreeIs wr w.heap.size t (allSp (ls.take k)) ∧ Below w.heap.size w wr) (fun rr ii _ => ls.length - (intOf ii).toNat)
  case atStart => exact ⟨0, .nil, Nat.zero_le _, rfl, rfl, ⟨trivial, List.nodup_nil, rfl, fun b h => by cases h⟩, Below.refl _ _⟩
  case round =>
    obtain ⟨k, t, hkl, rfl, rfl, ht, hb⟩ := hrel
    by_cases hlt : k < ls.length
    · obtain ⟨p, hp⟩ := some_of_lt hlt
      have hcell : wr.cell? ⟨g, k, none⟩ = some p.1 := by
        have := (blk_keep hk hb).cell k
        rw [this]
        simp [hp]
      have hsx : ∀ {w9 : World}, Below w.heap.size w w9 → RSl RSp 2 w9 lo hi p.2 [p.1] := fun hb9 => sl_keep RSp.loc (hs p (List.mem_of_getElem? hp)) hb9 hhi
      obtain ⟨v, xs⟩ := p
      dsimp only at hcell hsx
      obtain ⟨A, d, rfl⟩ := (hsx hb).form
      have hnx : allSp (ls.take (k + 1)) = allSp (ls.take k) ++ xs := by rw [take_succ hp, allSp_snoc]
      have HNX := Lib.hid hnx; clear hnx hp
      have hsp := hsx hb
      obtain ⟨_, hd, hy⟩ := hsp.len_
      unfold maxLen at hy
      have h64 := sp_in64 hsp
      have HT := Lib.hid ht; clear ht
      obtain ⟨pt, hpt⟩ := t.ptr_form
      have hin : ∀ x ∈ allSp (ls.take k), In64 x.n := fun x hx => by
        obtain ⟨l, hl, hxl⟩ := List.mem_flatten.1 hx
        obtain ⟨p, hp, rfl⟩ := List.mem_map.1 hl
        exact (sp_in64 (hs p (List.mem_of_mem_take hp)) x hxl).1
      have hgs := hb.size
      go_wp2_with fail
      go_loopw [3, 16] (fun rr ii wz => ∃ (j : Nat) (t : Tr), j ≤ xs.length ∧ rr = t.ptr ∧ ii = .int .i64 j ∧ TreeIs wz w.heap.size t (allSp (ls.take k) ++ xs.take j) ∧ Below w.heap.size w wz) (fun rr ii _ => xs.length - (intOf ii).toNat)
      case atStart => exact ⟨0, t, Nat.zero_le _, by first | rfl | exact hpt.symm, rfl, by simpa using HT.out, hb⟩
      case round =>
        clear hb hcell hsp hgs
        obtain ⟨j, t2, hj, rfl, rfl, ht2, hb⟩ := hrel
        have HT2 := Lib.hid ht2; clear ht2
        have hsp := hsx hb
        have hgs := hb.size
        by_cases hjl : j < xs.length
        · obtain ⟨x, hxj⟩ := some_of_lt hjl
          obtain ⟨b5, off, rfl, _, _, hx64, hce0, hce1⟩ := sp_at hsp hxj
          have HX := Lib.hid hxj; clear hxj
          have ba := below_alloc wr (.cells #[.int .i64 x.n, .int .i64 x.p] 77)
          have ht3 := HT2.out.below ba
          have hin3 : ∀ y ∈ allSp (ls.take k) ++ xs.take j, In64 y.n := fun y hy => by
            rcases List.mem_append.1 hy with hy | hy
            · exact hin y hy
            · exact (h64 y (List.mem_of_mem_take hy)).1
          have HT3 := Lib.hid ht3; clear ht3
          go_wp2_with fail
          refine (put_any x hx64 t2 _ HT3.out.tin HT3.out.nd (HT3.out.in64 hin3)).mono ?_
          rintro e w5 ⟨nb, rfl, hnb, htn, hnd, hcg⟩
          have hb5 : Below w.heap.size w w5 := (hb.trans (ba.mono hgs)).trans (hcg.below (by simp only [World.size_alloc]; omega) fun i hi h => by have := HT3.out.at_ i h; omega)
          have hlist : (t2.put nb x).list = putsS (allSp (ls.take k) ++ xs.take (j + 1)) [] := by
            rw [Tr.put_list HT3.out.asc, HT3.out.list, take_succ HX.out, ← List.append_assoc, putsS_snoc]
          have hat : ∀ b ∈ (t2.put nb x).blocks, w.heap.size ≤ b := fun b h => by
            rcases Tr.put_blocks h with rfl | h
            · simp only [World.size_alloc] at hnb; omega
            · exact HT3.out.at_ b h
          have HL := Lib.hid (TreeIs.mk htn hnd hlist hat); clear hlist hat htn hnd
          go_wp2_with fail
          go_roundw
          case rel => exact ⟨j + 1, t2.put nb x, by omega, rfl, by go_num, HL.out, hb5⟩
          case measure => simp [intOf]; omega
        · obtain rfl : j = xs.length := by omega
          have ht5 : TreeIs wr w.heap.size t2 (allSp (ls.take (k + 1))) := by
            have := HT2.out
            rw [List.take_length] at this
            rw [HNX.out]; exact this
          have HT5 := Lib.hid ht5; clear ht5
          go_wp2_with fail
          go_roundw
          case rel => exact ⟨k + 1, t2, by omega, rfl, by go_num, HT5.out, hb⟩
          case measure => simp [intOf]; omega
    · obtain rfl : k = ls.length := by omega
      rw [List.take_length] at ht
      have HT := Lib.hid ht; clear ht
      obtain ⟨pt, hpt⟩ := t.ptr_form
      go_wp2_with fail
      go_ret
      exact ⟨t, by first | rfl | rw [hpt]; rfl, HT.out, hb⟩
/-- What find finds. -/
theorem findS_tree : ∀ {l r : List Sp} {s : Sp} {n : Int}, ascS (l ++ s :: r) → findS n (l ++ s :: r) = if n = s.n then s.p else if n < s.n then findS n l else findS n r
  | [], r, s, n, h => by
    show (if s.n = n then s.p else findS n r) = _
    by_cases he : s.n = n
    · rw [if_pos he, if_pos he.symm]
    · rw [if_neg he, if_neg fun e => he e.symm]
      split
      · rename_i hlt
        show findS n r = 0
        have : ∀ x ∈ r, ¬ x.n = n := fun x hx => by have := (List.pairwise_cons.1 h).1 x hx; omega
        clear h
        induction r with
        | nil => rfl
        | cons x r ih => show (if x.n = n then x.p else findS n r) = 0; rw [if_neg (this x (by simp)), ih fun y hy => this y (by simp [hy])]
      · rfl
  | x :: l, r, s, n, h => by
    have hx := (List.pairwise_cons.1 h).1 s (by simp)
    show (if x.n = n then x.p else findS n (l ++ s :: r)) = _
    rw [findS_tree (List.pairwise_cons.1 h).2]
    by_cases he : x.n = n
    · rw [if_pos he, if_neg (by omega), if_pos (by omega)]
      show x.p = (if x.n = n then x.p else _)
      rw [if_pos he]
    · rw [if_neg he]
      split
      · rfl
      · split
        · show findS n l = (if x.n = n then x.p else findS n l)
          rw [if_neg he]
        · rfl
theorem tin_one {w : World} : ∀ {u u' : Tr}, Tin w u → Tin w u' → u.ptr = u'.ptr → u = u'
  | .nil, .nil, _, _, _ => rfl
  | .nil, .node .., _, _, h => by simp [Tr.ptr] at h
  | .node .., .nil, _, _, h => by simp [Tr.ptr] at h
  | .node b s l r, .node b' s' l' r', ⟨hk, hl, hr⟩, ⟨hk', hl', hr'⟩, h => by
    simp only [Tr.ptr, Value.pointer.injEq, Option.some.injEq, Addr.mk.injEq, and_true] at h
    obtain rfl := h
    unfold Blk at hk hk'
    rw [hk] at hk'
    simp only [Option.some.injEq, Obj.cells.injEq, Array.mk.injEq, List.cons.injEq, Value.int.injEq, true_and, and_true] at hk'
    obtain ⟨h1, h2, h3, h4⟩ := hk'
    rw [Sp.eq_of h1 h2, tin_one hl hl' h3, tin_one hr hr' h4]
instance trInh : Inhabited Tr := ⟨.nil⟩
theorem tin_size {w : World} {u : Tr} (h : Tin w u) : (Classical.epsilon fun u' : Tr => u.ptr = u'.ptr ∧ Tin w u').size = u.size := by
  have h1 := Classical.epsilon_spec (p := fun u' : Tr => u.ptr = u'.ptr ∧ Tin w u') ⟨u, rfl, h⟩
  rw [← tin_one h h1.2 h1.1]
set_option maxHeartbeats 2000000 in
theorem find_any (n : Int) (t : Tr) (w : World) (ht : Tin w t) (ha : ascS t.list) :
    Calls Try.prog 55 #[t.ptr, .int .i64 n] w fun e w' => e = .returned (.int .i64 (findS n t.list)) ∧ w = w' := by
  have HA := Lib.hid ha; clear ha
  obtain ⟨pt, hpt⟩ := t.ptr_form
  rw [hpt]
  go_enter Try.func55, Try.ntmps55
  go_wp2_with fail
  go_loopw [0] (fun pp wr => ∃ u : Tr, pp = u.ptr ∧ Tin w u ∧ ascS u.list ∧ findS n u.list = findS n t.list ∧ w = wr) (fun pp _ => (Classical.epsilon fun u' : Tr => pp = u'.ptr ∧ Tin w u').size)
  case atStart => exact ⟨t, hpt.symm, ht, HA.out, rfl, rfl⟩
  case round =>
    obtain ⟨u, rfl, hu, hau, hfu, rfl⟩ := hrel
    have HM := Lib.hid (tin_size hu)
    cases u with
    | nil =>
      have hf0 : findS n t.list = 0 := hfu.symm
      have HF := Lib.hid hf0; clear hf0 hfu hau
      have hp0 : Tr.nil.ptr = .pointer none := rfl
      rw [hp0]
      go_wp2_with fail
      go_ret
      exact ⟨by rw [HF.out]; rfl, rfl⟩
    | node b s l r =>
      obtain ⟨hk, hl, hr⟩ := hu
      have ck := hk.cell
      have hfs := findS_tree (n := n) hau
      have HFS := Lib.hid hfs; clear hfs
      have HFU := Lib.hid hfu; clear hfu
      have HAU := Lib.hid hau; clear hau
      have hpl := List.pairwise_append.1 HAU.out
      have HPL := Lib.hid hpl; clear hpl
      obtain ⟨pl, hpl⟩ := l.ptr_form
      obtain ⟨pr, hpr⟩ := r.ptr_form
      have HL := Lib.hid (tin_size hl)
      have HR := Lib.hid (tin_size hr)
      have hp0 : (Tr.node b s l r).ptr = .pointer (some ⟨b, 0, none⟩) := rfl
      have HP0 := Lib.hid hp0
      rw [hp0]
      clear hp0
      rcases Int.lt_trichotomy n s.n with hlt | heq | hlt
      · have t1 : (n != s.n) = true := by rw [bne_iff_ne]; omega
        have t1' : (s.n != n) = true := by rw [bne_iff_ne]; omega
        have t2 : decide (n < s.n) = true := decide_eq_true hlt
        have hnext : findS n l.list = findS n t.list := by
          rw [← HFU.out]
          show _ = findS n (l.list ++ s :: r.list)
          rw [HFS.out, if_neg (by omega), if_pos hlt]
        have HN := Lib.hid hnext; clear hnext hlt
        go_wp2_with fail
        go_roundw
        case rel => exact ⟨l, hpl.symm, hl, HPL.out.1, HN.out, trivial⟩
        case measure =>
          have h1 := HL.out
          have h2 := HM.out
          have h3 := HP0.out
          rw [h3] at h2
          rw [hpl] at h1
          rw [h1, h2]
          simp only [Tr.size]; omega
      · have t1 : (n != s.n) = false := by rw [bne_eq_false_iff_eq]; omega
        have t1' : (s.n != n) = false := by rw [bne_eq_false_iff_eq]; omega
        have hnext : findS n t.list = s.p := by
          rw [← HFU.out]
          show findS n (l.list ++ s :: r.list) = _
          rw [HFS.out, if_pos heq]
        have HN := Lib.hid hnext; clear hnext heq
        go_wp2_with fail
        go_ret
        exact ⟨by rw [HN.out]; rfl, rfl⟩
      · have t1 : (n != s.n) = true := by rw [bne_iff_ne]; omega
        have t1' : (s.n != n) = true := by rw [bne_iff_ne]; omega
        have t2 : decide (n < s.n) = false := decide_eq_false (by omega)
        have hnext : findS n r.list = findS n t.list := by
          rw [← HFU.out]
          show _ = findS n (l.list ++ s :: r.list)
          rw [HFS.out, if_neg (by omega), if_neg (by omega)]
        have HN := Lib.hid hnext; clear hnext hlt
        go_wp2_with fail
        go_roundw
        case rel => exact ⟨r, hpr.symm, hr, (List.pairwise_cons.1 HPL.out.2.1).2, HN.out, trivial⟩
        case measure =>
          have h1 := HR.out
          have h2 := HM.out
          have h3 := HP0.out
          rw [h3] at h2
          rw [hpr] at h1
          rw [h1, h2]
          simp only [Tr.size]; omega
end Go.Proofs.Ytanppokbjladfaa
