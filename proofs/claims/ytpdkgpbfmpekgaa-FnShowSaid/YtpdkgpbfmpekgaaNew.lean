


/- What is new of a tree, and its snapshot, by the reference. -/
import Derived.Test.YtpdkgpbfmpekgaaGT
import Derived.Test.YtpdkgpbfmpekgaaPkI
namespace Go.Proofs.Ytpdkgpbfmpekgaa
open Go.RowKit

theorem drop_cons {α : Type} {l : List α} {k : Nat} {x : α} (h : l[k]? = some x) : l.drop k = x :: l.drop (k + 1) := by
  have hlt := lt_of_some h
  rw [List.drop_eq_getElem_cons hlt]
  congr 1
  rw [List.getElem?_eq_getElem hlt] at h
  exact Option.some.inj h
theorem l4Find_any (xs : List Sp) (n : Int) (v : Value) (w : World) (lo hi : Nat) (h : RSl RSp 2 w lo hi xs [v]) :
    Calls Try.prog 69 #[v, .int .i64 n] w fun e w' => e = .returned (.int .i64 (findS n xs)) ∧ w = w' := by
  obtain ⟨A, c, rfl⟩ := h.form
  obtain ⟨_, hc, hx⟩ := h.len_
  unfold maxLen at hx
  go_enter Try.func69, Try.ntmps69
  go_wp2_with fail
  go_loop [5] (fun i => ∃ k : Nat, k ≤ xs.length ∧ i = .int .i64 k ∧ findS n xs = findS n (xs.drop k)) (fun i => xs.length - (intOf i).toNat)
  case atStart => exact ⟨0, Nat.zero_le _, rfl, by rw [List.drop_zero]⟩
  case round =>
    obtain ⟨k, hk, rfl, hn⟩ := hrel
    have HN := Lib.hid hn; clear hn
    by_cases hlt : k < xs.length
    · obtain ⟨x, hxk⟩ := some_of_lt hlt
      obtain ⟨b5, off, rfl, _, _, h64, hcell, hcell1⟩ := sp_at h hxk
      have hd : findS n (xs.drop k) = if x.n = n then x.p else findS n (xs.drop (k + 1)) := by rw [drop_cons hxk]; rfl
      have HD := Lib.hid hd; clear hd hxk
      by_cases he : x.n = n
      · have t1 : (x.n == n) = true := beq_iff_eq.2 he
        have HE := Lib.hid (HN.out.trans (HD.out.trans (if_pos he)))
        clear he
        go_wp2_with fail
        go_ret
        exact ⟨by rw [HE.out]; rfl, rfl⟩
      · have t1 : (x.n == n) = false := beq_eq_false_iff_ne.2 he
        have HE := Lib.hid (HN.out.trans (HD.out.trans (if_neg he)))
        clear he
        go_wp2_with fail
        go_round
        case rel => exact ⟨k + 1, by omega, by go_num, HE.out⟩
        case measure => simp [intOf]; omega
    · obtain rfl : k = xs.length := by omega
      have hz : findS n xs = 0 := by rw [HN.out, List.drop_length]; rfl
      have HZ := Lib.hid hz; clear hz HN
      go_wp2_with fail
      go_ret
      exact ⟨by rw [HZ.out]; rfl, rfl⟩
open Classical in
/-- One piece more, if it is in no pack, and not there. -/
noncomputable def newStep (key : Int) (ix : List Sp) (o : List ByteArray) (p : ByteArray) : List ByteArray := if findS (nameL key (bs p)) ix = 0 ∧ p ∉ o then o ++ [p] else o
noncomputable def newF (key : Int) (ix : List Sp) (o l : List ByteArray) : List ByteArray := l.foldl (newStep key ix) o
def cutsT (t : List Nd) : List ByteArray := t.flatMap fun f => cutS f.b
/-- Pieces of a tree that are in no pack. -/
noncomputable def newL (key : Int) (ix : List Sp) (t : List Nd) : List ByteArray := newF key ix [] (cutsT t)
theorem newStep_yes {key : Int} {ix : List Sp} {o : List ByteArray} {p : ByteArray} (h : findS (nameL key (bs p)) ix = 0) (h2 : p ∉ o) : newStep key ix o p = o ++ [p] := if_pos ⟨h, h2⟩
theorem newStep_no {key : Int} {ix : List Sp} {o : List ByteArray} {p : ByteArray} (h : ¬ (findS (nameL key (bs p)) ix = 0 ∧ p ∉ o)) : newStep key ix o p = o := if_neg h
theorem newF_take {key : Int} {ix : List Sp} {o l : List ByteArray} {k : Nat} {p : ByteArray} (h : l[k]? = some p) : newF key ix o (l.take (k + 1)) = newStep key ix (newF key ix o (l.take k)) p := by
  unfold newF; rw [take_succ h, List.foldl_append]; rfl
theorem newL_take {key : Int} {ix : List Sp} {t : List Nd} {k : Nat} {f : Nd} (h : t[k]? = some f) : newL key ix (t.take (k + 1)) = newF key ix (newL key ix (t.take k)) (cutS f.b) := by
  unfold newL newF cutsT
  rw [take_succ h, List.flatMap_append, List.foldl_append]
  simp
theorem newF_len {key : Int} {ix : List Sp} : ∀ (l o : List ByteArray), (newF key ix o l).length ≤ o.length + l.length
  | [], o => Nat.le_refl _
  | p :: l, o => by
    have h1 := newF_len (key := key) (ix := ix) l (newStep key ix o p)
    have h2 : (newStep key ix o p).length ≤ o.length + 1 := by
      unfold newStep
      split
      · rw [List.length_append]; exact Nat.le_refl _
      · exact Nat.le_succ _
    show (newF key ix (newStep key ix o p) l).length ≤ _
    rw [List.length_cons]; omega
theorem newF_mem {key : Int} {ix : List Sp} {x : ByteArray} : ∀ {l o : List ByteArray}, x ∈ newF key ix o l → x ∈ o ∨ x ∈ l
  | [], o, h => .inl h
  | p :: l, o, h => by
    rcases newF_mem (l := l) (o := newStep key ix o p) h with h | h
    · unfold newStep at h
      split at h
      · rcases List.mem_append.1 h with h | h
        · exact .inl h
        · rw [List.mem_singleton.1 h]; exact .inr (by simp)
      · exact .inl h
    · exact .inr (List.mem_cons_of_mem _ h)
theorem cutsT_len : ∀ {t : List Nd}, (∀ x ∈ t, textB x.b = true) → (cutsT t).length ≤ 40 * t.length
  | [], _ => Nat.zero_le _
  | f :: t, h => by
    have h1 := cutsT_len (t := t) fun x hx => h x (List.mem_cons_of_mem _ hx)
    have h2 := cutS_len f.b
    have h3 := h f (by simp)
    unfold textB at h3
    simp only [Bool.and_eq_true, decide_eq_true_eq] at h3
    show (cutS f.b ++ cutsT t).length ≤ _
    rw [List.length_append, List.length_cons]; omega
theorem textB_all {s : ByteArray} (h : textB s = true) : s.size ≤ 40 ∧ (bs s).all isL = true := by
  unfold textB at h
  simpa using h
theorem cutsT_piece {t : List Nd} (h : ∀ x ∈ t, textB x.b = true) : ∀ x ∈ cutsT t, pieceP (bs x) := fun x hx => by
  obtain ⟨f, hf, hx⟩ := List.mem_flatMap.1 hx
  exact cutS_piece (textB_all (h f hf)).2 x hx
theorem newL_piece {key : Int} {ix : List Sp} {t : List Nd} (h : ∀ x ∈ t, textB x.b = true) : ∀ x ∈ newL key ix t, pieceP (bs x) := fun x hx => by
  rcases newF_mem hx with h1 | h1
  · cases h1
  · exact cutsT_piece h x h1
theorem piece_good {x : ByteArray} (h : pieceP (bs x)) : FStr.good x := by
  have := h.1.2
  rw [bs_len] at this
  show x.size ≤ maxLen
  unfold maxLen; omega
def NewStrs (w : World) (xs : List ByteArray) (e : Ending) (w' : World) : Prop := ∃ v, e = .returned v ∧ OwnF FStr 9 w' w.heap.size v xs ∧ Below w.heap.size w w'
set_option maxRecDepth 8000 in
set_option maxHeartbeats 4000000 in
theorem l12New_any (key : Int) (hk : 1 ≤ key ∧ key ≤ 99) (t : List Nd) (ht : ∀ x ∈ t, textB x.b = true) (hl : t.length ≤ 1000) (ix : List Sp) (vt vi : Value) (w : World) (lo hi : Nat) (hhi : hi ≤ w.heap.size) (h1 : RNds w lo hi t [vt]) (h2 : RSl RSp 2 w lo hi ix [vi]) :
    Calls Try.prog 53 #[.int .i64 key, vt, vi] w (NewStrs w (newL key ix t)) := by
  have HT := Lib.hid ht; clear ht
  obtain ⟨A, c, rfl⟩ := h1.form
  obtain ⟨A2, c2, rfl⟩ := h2.form
  obtain ⟨_, hc, hx⟩ := h1.len_
  unfold maxLen at hx
  go_enter Try.func53, Try.ntmps53
  go_wp2_with fail
  have hb0 := below_alloc w (.cells #[] 9)
  have ho0 : OwnF FStr 9 (w.alloc (.cells #[] 9)) w.heap.size (.slice (some ⟨w.heap.size, 0, none⟩) 0 0) [] := (Lit0.new w 9 (Nat.le_refl _)).own 1
  generalize w.alloc (.cells #[] 9) = w0 at *
  go_loopw [7, 8] (fun oo ii wr => ∃ k : Nat, k ≤ t.length ∧ ii = .int .i64 k ∧ OwnF FStr 9 wr w.heap.size oo (newL key ix (t.take k)) ∧ Below w.heap.size w wr) (fun _ ii _ => t.length - (intOf ii).toNat)
  case atStart => exact ⟨0, Nat.zero_le _, rfl, ho0, hb0⟩
  case round =>
    clear ho0 hb0
    obtain ⟨k, hkl, rfl, ho, hb⟩ := hrel
    obtain ⟨wo, hwo⟩ : ∃ wo, wo = wr := ⟨_, rfl⟩
    subst hwo
    by_cases hlt : k < t.length
    · obtain ⟨f, hfk⟩ := some_of_lt hlt
      have htf := textB_all (HT.out f (List.mem_of_getElem? hfk))
      obtain ⟨b1, off, rfl, _, _, hfg, hcp, hcb⟩ := nd_at (RNds.tloc.below h1 hb hhi) hfk
      have hstep := newL_take (key := key) (ix := ix) hfk
      have hbl : (newL key ix (t.take k)).length ≤ 40000 := by
        have a1 := newF_len (key := key) (ix := ix) (cutsT (t.take k)) []
        have a2 := cutsT_len (t := t.take k) fun x hx => HT.out x (List.mem_of_mem_take hx)
        rw [List.length_take] at a2
        show (newF key ix [] (cutsT (t.take k))).length ≤ _
        simp only [List.length_nil, Nat.zero_add] at a1
        omega
      have hpc := newL_piece (key := key) (ix := ix) (t := t.take k) fun x hx => HT.out x (List.mem_of_mem_take hx)
      have hall := cutS_piece htf.2
      have hcl := cutS_len f.b
      have h40 := htf.1
      have HS := Lib.hid hstep; have HP := Lib.hid hpc; have HA := Lib.hid hall
      have HC := Lib.hid (l1All_any f.b (by omega))
      clear hfk hstep hpc hall htf
      revert HS; revert HP
      generalize newL key ix (t.take k) = base at ho hbl
      intro HP HS
      obtain ⟨A0, c0, rfl⟩ := ho.form
      go_wp2_with fail
      refine (HC.out wo).mono ?_
      rintro e w1 ⟨v1, rfl, op, b1'⟩
      clear HC
      obtain ⟨Ap, cp, rfl⟩ := op.form
      have ho1 := ho.below b1'
      have hb1 := below_below hb b1'
      have hap0 : ∀ g, (Value.slice A0 base.length c0).ownBlock = some g → g < wo.heap.size ∨ w1.heap.size ≤ g := fun g hg => .inl (ho.at_ hg).2
      have opr := (op.deep (fun x hx => piece_good (HA.out x hx)) wo.heap.size).sl (Nat.le_refl _)
      have zo := hb.size
      have z1 := b1'.size
      revert HS; revert HA; revert hcl; revert opr
      generalize cutS f.b = ps
      intro opr hcl HA HS
      have HO := Lib.hid ho1; have HB := Lib.hid hb1; have HR := Lib.hid opr; have HAP := Lib.hid hap0
      clear ho hb ho1 hb1 opr op hap0 b1' hcb hcp
      go_wp2_with fail
      go_loopw [7, 10] (fun oo jj wr => ∃ j : Nat, j ≤ ps.length ∧ jj = .int .i64 j ∧ OwnF FStr 9 wr w.heap.size oo (newF key ix base (ps.take j)) ∧ Below w.heap.size w wr ∧ RStrs wr wo.heap.size w1.heap.size ps [.slice Ap ps.length cp] ∧ (∀ g, oo.ownBlock = some g → g < wo.heap.size ∨ w1.heap.size ≤ g) ∧ w1.heap.size ≤ wr.heap.size) (fun _ jj _ => ps.length - (intOf jj).toNat)
      case atStart => exact ⟨0, Nat.zero_le _, rfl, HO.out, HB.out, HR.out, HAP.out, Nat.le_refl _⟩
      case round =>
        clear HO HB HR HAP
        obtain ⟨j, hjl, rfl, ho, hb, hr, hap, hz⟩ := hrel
        by_cases hlt2 : j < ps.length
        · obtain ⟨p, hpj⟩ := some_of_lt hlt2
          have hpp := HA.out p (List.mem_of_getElem? hpj)
          obtain ⟨b2, off2, rfl, hb21, hb22, hps, hcell⟩ := str_at hr hpj
          have hnx := newF_take (key := key) (ix := ix) (o := base) hpj
          have hnl := newF_len (key := key) (ix := ix) (ps.take j) base
          rw [List.length_take] at hnl
          have hng : ∀ x ∈ newF key ix base (ps.take j), FStr.good x := fun x hx => by
            rcases newF_mem hx with h | h
            · exact piece_good (HP.out x h)
            · exact piece_good (HA.out x (List.mem_of_mem_take h))
          have h2r := RSp.loc
          have hix : RSl RSp 2 wr lo hi ix [.slice A2 ix.length c2] := (RSl.loc RSp.loc).below h2 hb hhi
          have HNX := Lib.hid hnx
          have HNG := Lib.hid hng
          have HIX := Lib.hid hix
          have HAP := Lib.hid hap; have HR := Lib.hid hr
          have HC1 := Lib.hid (l2Name_any key p hk hpp wr)
          clear h2r hnx hng hix hap hr hpj
          revert HNX; revert HNG
          generalize newF key ix base (ps.take j) = o at ho hnl
          intro HNG HNX
          obtain ⟨Ao, co, rfl⟩ := ho.form
          have hoR := (ho.deep HNG.out w.heap.size).sl (Nat.le_refl _)
          have HOR := Lib.hid hoR
          clear hoR
          have hol : o.length ≤ 50000 := by omega
          clear hnl
          go_wp2_with fail
          refine HC1.out.mono ?_
          rintro e w2 ⟨rfl, rfl⟩
          clear HC1
          have HC2 := Lib.hid (l4Find_any ix (nameL key (bs p)) _ wr lo hi HIX.out)
          obtain ⟨r, hrr⟩ : ∃ r, r = findS (nameL key (bs p)) ix := ⟨_, rfl⟩
          rw [← hrr] at HC2
          have HRR := Lib.hid hrr; clear hrr
          go_wp2_with fail
          refine HC2.out.mono ?_
          rintro e w2 ⟨rfl, rfl⟩
          clear HC2
          by_cases hr0 : r = 0
          · have t1 : (r == 0) = true := beq_iff_eq.2 hr0
            have HR0 := Lib.hid (HRR.out.symm.trans hr0)
            clear hr0
            obtain ⟨q, hq⟩ := bool_is (p ∈ o)
            have HC3 := Lib.hid (l12In_any o p _ wr _ _ HOR.out q hq)
            cases q with
            | true =>
              have HE : Hid (newStep key ix o p = o) := Lib.hid (newStep_no fun h => h.2 (hq.1 rfl))
              clear hq
              go_wp2_with fail
              refine HC3.out.mono ?_
              rintro e w2 ⟨rfl, rfl⟩
              go_wp2_with fail
              go_roundw
              case rel => exact ⟨j + 1, by omega, by go_num, by rw [HNX.out, HE.out]; exact ho, hb, HR.out, HAP.out, hz⟩
              case measure => simp [intOf]; omega
            | false =>
              have HE : Hid (newStep key ix o p = o ++ [p]) := Lib.hid (newStep_yes HR0.out fun h => by have := hq.2 h; cases this)
              clear hq
              go_wp2_with fail
              refine HC3.out.mono ?_
              rintro e w2 ⟨rfl, rfl⟩
              have hne : ∀ hs : (Value.slice Ao o.length co).ownBlock = some b2, False := fun hs => by
                have := HAP.out _ hs
                omega
              have HNE := Lib.hid hne; clear hne
              go_wp2_with (at_builtin; refine app_flat (F := FStr) (v := .slice Ao o.length co) rfl (.tmp 48) (.tmp 53) 77 rfl elem_str p rfl ho rfl rfl (by omega) hb.size ?_; intro va wa oa cha ata; obtain ⟨Aa, ca, rfl⟩ := oa.form; simp only [List.length_append, List.length_cons, List.length_nil, Nat.zero_add] at oa)
              go_roundw
              case rel =>
                refine ⟨j + 1, by omega, by go_num, by rw [HNX.out, HE.out]; simpa using oa, hb.trans (cha.below hb.size fun i hi hx => by have := (ho.at_ hx).1; omega), RStrs.tloc.chg HR.out cha fun b b1 b2 _ hs => by have := HAP.out _ hs; omega, fun g hg => ?_, Nat.le_trans hz cha.size⟩
                rcases ata g (by simpa using hg) with h | h
                · exact HAP.out g h
                · exact .inr (by omega)
              case measure => simp [intOf]; omega
          · have t1 : (r == 0) = false := beq_eq_false_iff_ne.2 hr0
            have HE : Hid (newStep key ix o p = o) := Lib.hid (newStep_no fun h => hr0 (HRR.out.trans h.1))
            clear hr0
            go_wp2_with fail
            go_roundw
            case rel => exact ⟨j + 1, by omega, by go_num, by rw [HNX.out, HE.out]; exact ho, hb, HR.out, HAP.out, hz⟩
            case measure => simp [intOf]; omega
        · obtain rfl : j = ps.length := by omega
          rw [List.take_length] at ho
          rw [← HS.out] at ho
          have HO := Lib.hid ho
          clear ho
          go_wp2_with fail
          go_roundw
          case rel => exact ⟨k + 1, by omega, by go_num, HO.out, hb⟩
          case measure => simp [intOf]; omega
    · obtain rfl : k = t.length := by omega
      rw [List.take_length] at ho
      obtain ⟨A0, c0, rfl⟩ := ho.form
      go_wp2_with fail
      go_ret
      exact ⟨_, rfl, ho, hb⟩
end Go.Proofs.Ytpdkgpbfmpekgaa
