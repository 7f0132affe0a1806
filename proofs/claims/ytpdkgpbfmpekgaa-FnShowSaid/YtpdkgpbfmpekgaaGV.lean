/- Snap, Save, Sav, Drn. -/
import Derived.Test.YtpdkgpbfmpekgaaNew
import Derived.Test.YtpdkgpbfmpekgaaGS
import Derived.Test.YtpdkgpbfmpekgaaPkM



/- The snapshot of a tree, by the reference. -/
namespace Go.Proofs.Ytpdkgpbfmpekgaa
open Go.RowKit

def listedL (key : Int) (f : Nd) : Ls := ⟨f.p, (cutS f.b).map fun p => nameL key (bs p)⟩
/-- The snapshot of a tree. -/
def snapL (no key : Int) (t : List Nd) : Sn := ⟨no, t.map (listedL key)⟩
def NewSn (w : World) (s : Sn) (e : Ending) (w' : World) : Prop := ∃ v, e = .returned (.agg #[.int .i64 s.no, v]) ∧ OLss w' w.heap.size w'.heap.size s.all [v] ∧ Below w.heap.size w w'
set_option maxRecDepth 8000 in
set_option maxHeartbeats 4000000 in
theorem l12Of_any (no key : Int) (hk : 1 ≤ key ∧ key ≤ 99) (h64 : In64 no) (t : List Nd) (ht : ∀ x ∈ t, textB x.b = true) (hl : t.length ≤ 1000) (vt : Value) (w : World) (lo hi : Nat) (hhi : hi ≤ w.heap.size) (h1 : RNds w lo hi t [vt]) :
    Calls Try.prog 56 #[.int .i64 no, .int .i64 key, vt] w (NewSn w (snapL no key t)) := by
  have HT := Lib.hid ht; clear ht
  have HK := Lib.hid hk
  obtain ⟨A, c, rfl⟩ := h1.form
  obtain ⟨_, hc, hx⟩ := h1.len_
  unfold maxLen at hx
  go_enter Try.func56, Try.ntmps56
  go_wp2_with fail
  have hbw0 : Below w.heap.size w (((w.alloc (.cells #[.int .i64 0, .slice none 0 0] 52)).alloc (.cells #[] 89)).alloc (.cells #[.int .i64 no, .slice (some ⟨w.heap.size + 1, 0, none⟩) 0 0] 52)) := below_alloc' (below_alloc' (below_alloc _ _) _) _
  have k0 : Blk (((w.alloc (.cells #[.int .i64 0, .slice none 0 0] 52)).alloc (.cells #[] 89)).alloc (.cells #[.int .i64 no, .slice (some ⟨w.heap.size + 1, 0, none⟩) 0 0] 52)) (w.heap.size) 52 #[.int .i64 0, .slice none 0 0] := by
    have hk := blk_alloc (blk_alloc (Blk.new w 52 #[.int .i64 0, .slice none 0 0]) (.cells #[] 89)) (.cells #[.int .i64 no, .slice (some ⟨w.heap.size + 1, 0, none⟩) 0 0] 52)
    exact hk
  have k1 : Blk (((w.alloc (.cells #[.int .i64 0, .slice none 0 0] 52)).alloc (.cells #[] 89)).alloc (.cells #[.int .i64 no, .slice (some ⟨w.heap.size + 1, 0, none⟩) 0 0] 52)) (w.heap.size + 1) 89 #[] := by
    have hk := blk_alloc (Blk.new (w.alloc (.cells #[.int .i64 0, .slice none 0 0] 52)) 89 #[]) (.cells #[.int .i64 no, .slice (some ⟨w.heap.size + 1, 0, none⟩) 0 0] 52)
    simp only [World.size_alloc] at hk
    exact hk
  have k2 : Blk (((w.alloc (.cells #[.int .i64 0, .slice none 0 0] 52)).alloc (.cells #[] 89)).alloc (.cells #[.int .i64 no, .slice (some ⟨w.heap.size + 1, 0, none⟩) 0 0] 52)) (w.heap.size + 1 + 1) 52 #[.int .i64 no, .slice (some ⟨w.heap.size + 1, 0, none⟩) 0 0] := by
    have hk := Blk.new ((w.alloc (.cells #[.int .i64 0, .slice none 0 0] 52)).alloc (.cells #[] 89)) 52 #[.int .i64 no, .slice (some ⟨w.heap.size + 1, 0, none⟩) 0 0]
    simp only [World.size_alloc] at hk
    exact hk
  have hsw0 : w.heap.size + 3 ≤ (((w.alloc (.cells #[.int .i64 0, .slice none 0 0] 52)).alloc (.cells #[] 89)).alloc (.cells #[.int .i64 no, .slice (some ⟨w.heap.size + 1, 0, none⟩) 0 0] 52)).heap.size := by simp only [World.size_alloc]; omega
  generalize (((w.alloc (.cells #[.int .i64 0, .slice none 0 0] 52)).alloc (.cells #[] 89)).alloc (.cells #[.int .i64 no, .slice (some ⟨w.heap.size + 1, 0, none⟩) 0 0] 52)) = w0 at *
  have ck0 := k0.cell
  have fk0 := k0.frozen
  have ck1 := k1.cell
  have fk1 := k1.frozen
  have ck2 := k2.cell
  have fk2 := k2.frozen
  obtain ⟨all, hall⟩ : ∃ all, all = (snapL no key t).all := ⟨_, rfl⟩
  have hal : all.length = t.length := by rw [hall]; exact List.length_map _
  have HALL := Lib.hid hall; clear hall
  have hl0 : OLss w0 w.heap.size w0.heap.size [] [.slice (some ⟨w.heap.size + 1, 0, none⟩) 0 0] := Lit0.orow ⟨_, rfl, by omega, k1⟩ (Nat.le_refl _)
  have H0 := Lib.hid (And.intro hl0 (And.intro k0 (And.intro k2 hbw0)))
  clear hl0 k0 k1 k2 ck0 ck1 ck2 fk0 fk1 fk2 hbw0
  go_loopw [8] (fun ii wr => ∃ (k : Nat) (va : Value), k ≤ t.length ∧ ii = .int .i64 k ∧ OLss wr w.heap.size wr.heap.size (all.take k) [va] ∧ Blk wr w.heap.size 52 #[.int .i64 0, .slice none 0 0] ∧ Blk wr (w.heap.size + 1 + 1) 52 #[.int .i64 no, va] ∧ Below w.heap.size w wr) (fun ii _ => t.length - (intOf ii).toNat)
  case atStart => exact ⟨0, _, Nat.zero_le _, rfl, H0.out.1, H0.out.2.1, H0.out.2.2.1, H0.out.2.2.2⟩
  case round =>
    clear H0
    obtain ⟨k, va, hkl, rfl, hol, k0, k2, hb⟩ := hrel
    obtain ⟨wo, hwo⟩ : ∃ wo, wo = wr := ⟨_, rfl⟩
    subst hwo
    obtain ⟨Av, cv, rfl⟩ := hol.form
    have htl : (all.take k).length = k := by rw [List.length_take, Nat.min_eq_left (by omega)]
    rw [htl] at hol k2
    by_cases hlt : k < t.length
    · obtain ⟨f, hfk⟩ := some_of_lt hlt
      have htf := textB_all (HT.out f (List.mem_of_getElem? hfk))
      have hnode := RNds.tloc.below h1 hb hhi
      obtain ⟨b1, off, rfl, _, hb12, hfg, hcp, hcb⟩ := nd_at hnode hfk
      have hak : all[k]? = some (listedL key f) := by rw [HALL.out]; show (t.map (listedL key))[k]? = _; rw [List.getElem?_map, hfk]; rfl
      have hnx := take_succ hak
      have HNX := Lib.hid hnx; have HTL := Lib.hid htl
      have hpce := cutS_piece htf.2
      have hcl := cutS_len f.b
      have h40 := htf.1
      have HA := Lib.hid hpce
      have HC := Lib.hid (l1All_any f.b (by omega))
      have HOL := Lib.hid hol
      have HFG := Lib.hid hfg
      have HFK := Lib.hid hfk
      clear hfk hnode htf hak hnx hpce htl hol
      go_wp2_with fail
      refine (HC.out wo).mono ?_
      rintro e w1 ⟨v1, rfl, op, b1'⟩
      clear HC
      obtain ⟨Ap, cp, rfl⟩ := op.form
      have opr := (op.deep (fun x hx => piece_good (HA.out x hx)) wo.heap.size).sl (Nat.le_refl _)
      have zo := hb.size
      have z1 := b1'.size
      obtain ⟨ns, hns⟩ : ∃ ns, ns = (cutS f.b).map fun p => nameL key (bs p) := ⟨_, rfl⟩
      have hel : listedL key f = ⟨f.p, ns⟩ := by rw [hns]; rfl
      rw [hel] at HNX
      clear hel
      revert hns; revert HA; revert hcl; revert opr
      generalize cutS f.b = ps
      intro opr hcl HA hns
      have HNS := Lib.hid hns; clear hns
      go_wp2_with fail
      have b2 := below_alloc w1 (.cells #[] 3)
      have ho0 : OwnF FInt 3 (w1.alloc (.cells #[] 3)) w1.heap.size (.slice (some ⟨w1.heap.size, 0, none⟩) 0 0) [] := (Lit0.new w1 3 (Nat.le_refl _)).own 1
      have opr2 := RStrs.tloc.below opr b2 (Nat.le_refl _)
      have b3 := below_below b1' b2
      have hz2 := b2.size
      have HO := Lib.hid ho0; have HR := Lib.hid opr2; have HB := Lib.hid b3
      clear ho0 opr opr2 op b2 b3 hcp hcb b1'
      generalize w1.alloc (.cells #[] 3) = w2 at *
      go_loopw [10, 11] (fun nn jj wr => ∃ j : Nat, j ≤ ps.length ∧ jj = .int .i64 j ∧ OwnF FInt 3 wr w1.heap.size nn (ns.take j) ∧ Below wo.heap.size wo wr ∧ RStrs wr wo.heap.size w1.heap.size ps [.slice Ap ps.length cp] ∧ w1.heap.size ≤ wr.heap.size) (fun _ jj _ => ps.length - (intOf jj).toNat)
      case atStart => exact ⟨0, Nat.zero_le _, rfl, HO.out, HB.out, HR.out, hz2⟩
      case round =>
        clear HO HB HR
        obtain ⟨j, hjl, rfl, ho, hbr, hr, hz⟩ := hrel
        have hnl : ns.length = ps.length := by rw [HNS.out, List.length_map]
        have hjt : (ns.take j).length = j := by rw [List.length_take, Nat.min_eq_left (by omega)]
        obtain ⟨Ao, co, rfl⟩ := ho.form
        rw [hjt] at ho ⊢
        by_cases hlt2 : j < ps.length
        · obtain ⟨p, hpj⟩ := some_of_lt hlt2
          have hpp := HA.out p (List.mem_of_getElem? hpj)
          obtain ⟨b2, off2, rfl, hb21, hb22, hps, hcell⟩ := str_at hr hpj
          have hnj : ns[j]? = some (nameL key (bs p)) := by rw [HNS.out, List.getElem?_map, hpj]; rfl
          have hnx := take_succ hnj
          have HNJ := Lib.hid hnx
          have HJT := Lib.hid hjt
          have HC1 := Lib.hid (l2Name_any key p HK.out hpp wr)
          have HR := Lib.hid hr
          have hng := nameL_range (key := key) (l := bs p)
          revert HC1 HNJ hng
          generalize nameL key (bs p) = nv
          intro HNJ HC1 hng
          clear hnj hnx hr hpj hjt
          go_wp2_with fail
          refine HC1.out.mono ?_
          rintro e w3 ⟨rfl, rfl⟩
          go_wp2_with (at_builtin; refine app_flat (F := FInt) (v := .slice Ao j co) rfl (.tmp 34) (.tmp 41) 87 rfl elem_int nv rfl ho rfl rfl (by have := HJT.out; omega) hz ?_; intro va wa oa cha ata; obtain ⟨Aa, ca, rfl⟩ := oa.form; simp only [List.length_append, List.length_cons, List.length_nil, Nat.zero_add, HJT.out] at oa)
          go_roundw
          case rel =>
            refine ⟨j + 1, by omega, by go_num, by rw [HNJ.out]; simpa using oa, hbr.trans (cha.below hbr.size fun i hi hx => by have := (ho.at_ hx).1; omega), RStrs.tloc.chg HR.out cha fun b _ hb _ hs => by have := (ho.at_ hs).1; omega, Nat.le_trans hz cha.size⟩
          case measure => simp [intOf]; omega
        · obtain rfl : j = ps.length := by omega
          have hnt : ns.take ps.length = ns := by rw [← hnl, List.take_length]
          rw [hnt] at ho
          have hnode := RNds.tloc.below h1 (below_below hb hbr) hhi
          have hng : ∀ x ∈ ns, FInt.good x := fun x hx => by
            rw [HNS.out] at hx
            obtain ⟨p, _, rfl⟩ := List.mem_map.1 hx
            have := nameL_range (key := key) (l := bs p)
            show In64 _
            unfold In64; omega
          have hk0 := blk_keep k0 hbr
          have hk2 := blk_keep k2 hbr
          have hol := OLss.tloc.below HOL.out hbr (Nat.le_refl _)
          obtain ⟨b3, off3, e0, _, _, _, hcp3, _⟩ := nd_at hnode HFK.out
          simp only [Option.some.injEq, Addr.mk.injEq, and_true] at e0
          obtain ⟨rfl, rfl⟩ := e0
          have cs1 : wr.cell? ⟨w.heap.size + 1 + 1, 1, none⟩ = some (.slice Av k cv) := hk2.cell 1
          have zr := hbr.size
          have HOL2 := Lib.hid hol; have HO := Lib.hid ho; have HNG := Lib.hid hng; have HK0 := Lib.hid hk0; have HK2 := Lib.hid hk2; have HB := Lib.hid (below_below hb hbr)
          clear hol ho hng hk0 hk2 hnode hr HOL k0 k2 hb hbr hnt HFK
          go_wp2_with fail
          have past0 := past_cell cs1
          have past1 := past_cell hcp3
          refine region_pastT 10 [0, 1, 2, 3, 4, 5, 6, 7] [8, 9] (by kernel_rfl) (by kernel_rfl) (by kernel_rfl) ?_
          simp only [pick, List.map, List.getD_cons_zero, List.getD_cons_succ]
          repeat (go_big_quiet_step (fail))
          refine wpQuiet_nil ?_
          clear past0 past1
          apply Exists.intro
          apply past_fix (.agg #[.string f.p, .slice Ao ps.length co])
          · intro y hF Qx hQ'
            have hQ := Lib.hid hQ'; clear hQ' hF
            go_wp2_with fail
            exact hQ.out _ (Below.refl _ _)
          simp only [Act.put, List.setIfInBounds_toArray, List.set_cons_zero, List.set_cons_succ]
          apply past_any (fun v w' => ∃ g, v = .slice (some ⟨g, 0, none⟩) 1 1 ∧ Blk w' g 89 #[.string f.p, .slice Ao ps.length co])
          · rfl
          · exact fun v x y ⟨g, e, hk⟩ hle => ⟨g, e, blk_keep hk hle⟩
          · intro x hF Qx hQ'
            have hQ := Lib.hid hQ'; clear hQ'
            go_wp2_with fail
            exact hQ.out _ _ (below_alloc _ _) ⟨_, rfl, Blk.new _ _ _⟩
          intro u9
          simp only [Act.put, List.setIfInBounds_toArray, List.set_cons_zero, List.set_cons_succ]
          refine past_end ?_
          intro w6 hb6 xx hxx hF
          dsimp only [allF] at hF
          try rw [hxx] at hF
          clear hxx xx
          obtain ⟨⟨g8, rfl, kb8⟩, -⟩ := hF
          simp only [List.drop]
          have z6 := hb6.size
          have hol6 := OLss.tloc.below HOL2.out hb6 zr
          have o8 := (HO.out.below hb6).base z1
          have HO8 : Hid (OLs w6 wo.heap.size w6.heap.size ⟨f.p, ns⟩ [.string f.p, .slice Ao ps.length co]) := Lib.hid ⟨_, rfl, HFG.out.1, o8.orow HNG.out (by omega) fun g hg => (o8.at_ hg).2⟩
          have HK8 := Lib.hid kb8
          have HO6 := Lib.hid hol6
          have HK06 := Lib.hid (blk_keep HK0.out hb6)
          have HK26 := Lib.hid (blk_keep HK2.out hb6)
          have HB6 := Lib.hid (below_below HB.out hb6)
          clear HOL2 HO hb6 o8 kb8 hol6 HK0 HK2 HB cs1 hcp3
          go_wp2_with (at_builtin; refine stopper ?_)
          refine ⟨?_, trivial⟩
          refine app_orow OLs.tloc (by decide) (v := .slice Av k cv) rfl (.tmp 44) (.tmp 52) 50 rfl elem_ls ⟨f.p, ns⟩ rfl HO6.out rfl HK8.out rfl (by simp [Value.oneCell']) (show wo.heap.size ≤ w6.heap.size by omega) HO8.out (Nat.le_refl _) (by have := HTL.out; omega) (by omega) ?_
          intro v9 w9 o9 ch9 at9
          obtain ⟨A9, c9, rfl⟩ := o9.form
          rw [List.length_append, List.length_singleton, HTL.out] at o9
          rw [List.length_append, List.length_singleton, HTL.out]
          have hop := HO6.out
          have z9 := ch9.size
          have hn9 := blk_own hop ch9 HK26.out (by decide)
          have h09 := blk_own hop ch9 HK06.out (by decide)
          have cn9 : w9.cell? ⟨w.heap.size + 1 + 1, 1, none⟩ = some (.slice Av k cv) := hn9.cell 1
          have fn9 := hn9.frozen 1
          have hms := hn9.set_ 1 (.slice A9 (k + 1) c9)
          simp only [List.setIfInBounds_toArray, List.set_cons_zero, List.set_cons_succ] at hms
          have hol9 : OLss (w9.setCell ⟨w.heap.size + 1 + 1, 1, none⟩ (.slice A9 (k + 1) c9)) w.heap.size (w9.setCell ⟨w.heap.size + 1 + 1, 1, none⟩ (.slice A9 (k + 1) c9)).heap.size (all.take (k + 1)) [.slice A9 (k + 1) c9] := by
            rw [HNX.out]; simp only [World.size_setCell]; exact tl_set' OLss.tloc o9 hn9 (by decide) 1 _
          have hb9 : Below w.heap.size w (w9.setCell ⟨w.heap.size + 1 + 1, 1, none⟩ (.slice A9 (k + 1) c9)) := (HB6.out.trans (ch9.below HB6.out.size fun i hi hs => by have := hop.ob hs; omega)).setCell (by dsimp only; omega) _
          have h09' := blk_ne h09 (p := ⟨w.heap.size + 1 + 1, 1, none⟩) (.slice A9 (k + 1) c9) (by dsimp only; omega)
          have HF := Lib.hid (And.intro hol9 (And.intro h09' (And.intro hms hb9)))
          clear hol9 h09' hms hb9 hop hn9 h09
          go_wp2_with fail
          go_roundw
          case rel => exact ⟨k + 1, _, by omega, by go_num, HF.out.1, HF.out.2.1, HF.out.2.2.1, HF.out.2.2.2⟩
          case measure => simp [intOf]; omega
    · obtain rfl : k = t.length := by omega
      have hat : all.take t.length = all := by rw [← hal, List.take_length]
      rw [hat] at hol
      have ck2 := k2.cell
      have fk0 := k0.frozen
      have ck0 := k0.cell
      have HOL := Lib.hid hol
      clear hol hat
      go_wp2_with fail
      have k4 := (k0.set_ 0 (.int .i64 no)).set_ 1 (.slice Av t.length cv)
      simp only [List.setIfInBounds_toArray, List.set_cons_zero, List.set_cons_succ] at k4
      have ck4 := k4.cell
      refine bodyPost_ret (v := .agg #[.int .i64 no, .slice Av t.length cv]) (by simp [results, Try.results56, go_sem, ck4]) rfl ⟨_, rfl, ?_, (hb.setCell (by simp) _).setCell (by simp) _⟩
      rw [← HALL.out]
      simp only [World.size_setCell]
      exact tl_set' OLss.tloc (tl_set' OLss.tloc HOL.out k0 (by decide) 0 _) (k0.set_ 0 _) (by decide) 1 _
end Go.Proofs.Ytpdkgpbfmpekgaa




/- A tree saved, by the reference. -/
namespace Go.Proofs.Ytpdkgpbfmpekgaa
open Go.RowKit

/-- The number behind the last pack's. -/
def nextPk (l : List Pk) : Int := ((l.getLast?).map (·.no)).getD 0 + 1
def maxLg (l : List Hd) : Int := l.foldl (fun a h => max a (h.s + 1)) 1
/-- The next number of a snapshot. -/
def nextSn (s : Sto) : Int := match s.sn.getLast? with | some x => max (maxLg s.lg) (x.no + 1) | none => maxLg s.lg
theorem maxLg_take {l : List Hd} {k : Nat} {h : Hd} (hk : l[k]? = some h) : maxLg (l.take (k + 1)) = max (maxLg (l.take k)) (h.s + 1) := by
  unfold maxLg; rw [take_succ hk, List.foldl_append]; rfl
theorem maxLg_le {l : List Hd} {b : Int} (hb : 1 ≤ b) (h : ∀ x ∈ l, x.s + 1 ≤ b) : 1 ≤ maxLg l ∧ maxLg l ≤ b := by
  induction l using snocInd with
  | h0 => exact ⟨Int.le_refl _, hb⟩
  | h1 l x ih =>
    have e : maxLg (l ++ [x]) = max (maxLg l) (x.s + 1) := by unfold maxLg; rw [List.foldl_append]; rfl
    have := ih fun y hy => h y (by simp [hy])
    have := h x (by simp)
    rw [e]; omega
theorem max_if (m x : Int) : (if m < x then x else m) = max m x := by rw [Int.max_def]; split <;> split <;> omega
theorem last_at {α : Type} {l : List α} (h : 0 < l.length) : ∃ x, l[l.length - 1]? = some x ∧ l.getLast? = some x := by
  obtain ⟨x, hx⟩ := some_of_lt (show l.length - 1 < l.length by omega)
  exact ⟨x, hx, by rw [List.getLast?_eq_getElem?, hx]⟩
/-- No number of a store is past b. -/
def smallS (b : Int) (s : Sto) : Prop := (∀ p ∈ s.pk, p.no ≤ b) ∧ (∀ x ∈ s.sn, x.no ≤ b) ∧ ∀ h ∈ s.lg, h.s ≤ b
set_option maxRecDepth 8000 in
set_option maxHeartbeats 2000000 in
theorem l21Next_any (s : Sto) (hs : smallS 1000000 s) (va vb vc : Value) (w : World) (lo hi : Nat) (h : RStoL w lo hi s va vb vc) (hhi : hi ≤ w.heap.size) :
    Calls Try.prog 52 #[.agg #[va, vb, vc]] w fun e w' => e = .returned (.tuple #[.int .i64 (nextPk s.pk), .int .i64 (nextSn s)]) ∧ Below w.heap.size w w' := by
  obtain ⟨h1, h2, h3⟩ := h
  obtain ⟨A, a, rfl⟩ := RSl.form h1
  obtain ⟨B, b, rfl⟩ := RSl.form h2
  obtain ⟨C, c, rfl⟩ := RSl.form h3
  obtain ⟨_, ha1, ha2⟩ := h1.len_
  obtain ⟨_, hb1, hb2⟩ := h2.len_
  obtain ⟨_, hc1, hc2⟩ := h3.len_
  unfold maxLen at ha2 hb2 hc2
  have hnp : ∀ p ∈ s.pk, In64 p.no := fun p hp => by
    obtain ⟨es, v, _, hg, _⟩ := h1.all_ p hp
    exact hg
  have hnn : ∀ p ∈ s.sn, In64 p.no := fun p hp => by
    obtain ⟨es, v, _, hg, _⟩ := h2.all_ p hp
    exact hg
  have HS := Lib.hid hs; have HNP := Lib.hid hnp; have HNN := Lib.hid hnn
  clear hs hnp hnn
  go_enter Try.func52, Try.ntmps52
  rcases Nat.eq_zero_or_pos s.pk.length with hz | hz
  · have t1 : decide (0 < s.pk.length) = false := decide_eq_false (by omega)
    have hp : nextPk s.pk = 1 := by rw [List.length_eq_zero_iff.1 hz]; rfl
    have HP := Lib.hid hp
    have HZ := Lib.hid hz
    clear hz hp
    go_wp2_with fail
    have hbw0 : Below w.heap.size w (w.alloc (.cells #[.slice A s.pk.length a, .slice B s.sn.length b, .slice C s.lg.length c] 27)) := below_alloc _ _
    have k0 : Blk (w.alloc (.cells #[.slice A s.pk.length a, .slice B s.sn.length b, .slice C s.lg.length c] 27)) (w.heap.size) 27 #[.slice A s.pk.length a, .slice B s.sn.length b, .slice C s.lg.length c] := by
      have hk := Blk.new w 27 #[.slice A s.pk.length a, .slice B s.sn.length b, .slice C s.lg.length c]
      exact hk
    have hsw0 : w.heap.size + 1 ≤ (w.alloc (.cells #[.slice A s.pk.length a, .slice B s.sn.length b, .slice C s.lg.length c] 27)).heap.size := by simp only [World.size_alloc]; omega
    generalize (w.alloc (.cells #[.slice A s.pk.length a, .slice B s.sn.length b, .slice C s.lg.length c] 27)) = w0 at *
    have ck0 := k0.cell
    have fk0 := k0.frozen
    have h3w := RHdsL.loc.below h3 hbw0 hhi
    go_loop [5, 6] (fun ss ii => ∃ k : Nat, k ≤ s.lg.length ∧ ii = .int .i64 k ∧ ss = .int .i64 (maxLg (s.lg.take k))) (fun _ ii => s.lg.length - (intOf ii).toNat)
    case atStart => exact ⟨0, Nat.zero_le _, rfl, rfl⟩
    case round =>
      obtain ⟨k, hkl, rfl, rfl⟩ := hrel
      by_cases hlt : k < s.lg.length
      · obtain ⟨x, hxk⟩ := some_of_lt hlt
        have hxs := HS.out.2.2 x (List.mem_of_getElem? hxk)
        obtain ⟨b5, off, es, e0, _, _, _, ⟨rfl, hgd⟩, hcc⟩ := h3w.at_ hxk
        subst e0
        have hg1 : In64 x.s := hgd.2
        unfold In64 at hg1
        have hc0 : w0.cell? ⟨b5, off + k * 2 + 1, none⟩ = some (.int .i64 x.s) := by simpa using hcc 1 _ rfl
        have hm := maxLg_le (l := s.lg.take k) (b := 1000001) (by omega) fun y hy => by have := HS.out.2.2 y (List.mem_of_mem_take hy); omega
        have hnx := maxLg_take hxk
        have HN := Lib.hid hnx
        clear hnx hxk hcc hgd
        revert HN hm
        generalize maxLg (s.lg.take k) = m
        intro hm HN
        go_wp2_with fail
        go_round
        case rel => exact ⟨k + 1, by omega, by go_num, by rw [HN.out, max_if]⟩
        case measure => simp [intOf]; omega
      · obtain rfl : k = s.lg.length := by omega
        rw [List.take_length]
        have h2w := RSnsL.loc.below h2 hbw0 hhi
        rcases Nat.eq_zero_or_pos s.sn.length with hy | hy
        · have t2 : decide (0 < s.sn.length) = false := decide_eq_false (by omega)
          have hq : nextSn s = maxLg s.lg := by unfold nextSn; rw [List.length_eq_zero_iff.1 hy]; rfl
          have HQ := Lib.hid hq; have HY := Lib.hid hy
          clear hq hy
          go_wp2_with fail
          go_ret2
          exact ⟨by rw [HP.out, HQ.out]; rfl, hbw0⟩
        · have t2 : decide (0 < s.sn.length) = true := decide_eq_true (by omega)
          obtain ⟨y, hyk, hyl⟩ := last_at hy
          have hys := HS.out.2.1 y (List.mem_of_getElem? hyk)
          have hyn := HNN.out y (List.mem_of_getElem? hyk)
          unfold In64 at hyn
          have hq : nextSn s = max (maxLg s.lg) (y.no + 1) := by unfold nextSn; rw [hyl]
          obtain ⟨b5, off, es, e0, _, _, _, ⟨v5, rfl, hgd⟩, hcc⟩ := h2w.at_ hyk
          subst e0
          obtain ⟨m, hm⟩ : ∃ m, m = s.sn.length - 1 := ⟨_, rfl⟩
          rw [← hm] at hcc
          have e1 : (s.sn.length : Int) - 1 = ((m : Nat) : Int) := by omega
          have hml : m < s.sn.length := by omega
          have hc0 : w0.cell? ⟨b5, off + m * 2, none⟩ = some (.int .i64 y.no) := by simpa using hcc 0 _ rfl
          have HQ := Lib.hid hq
          clear hq hyl hyk hcc hgd hm hy
          go_wp2_with fail
          all_goals
            go_ret2
            exact ⟨by rw [HP.out, HQ.out]; first | (rw [Int.max_eq_right (by omega)]; rfl) | (rw [Int.max_eq_left (by omega)]; rfl), hbw0⟩
  · have t1 : decide (0 < s.pk.length) = true := decide_eq_true (by omega)
    obtain ⟨z, hzk, hzl⟩ := last_at hz
    have hzs := HS.out.1 z (List.mem_of_getElem? hzk)
    have hzn := HNP.out z (List.mem_of_getElem? hzk)
    unfold In64 at hzn
    have hp : nextPk s.pk = z.no + 1 := by unfold nextPk; rw [hzl]; rfl
    have HP := Lib.hid hp
    have HZK := Lib.hid hzk
    clear hp hzk hzl
    obtain ⟨b4, off4, es, e0, _, _, _, ⟨v4, rfl, hgd4⟩, hcc4⟩ := (RPksL.loc.below h1 (below_alloc w (.cells #[.slice A s.pk.length a, .slice B s.sn.length b, .slice C s.lg.length c] 27)) hhi).at_ HZK.out
    subst e0
    obtain ⟨m4, hm4⟩ : ∃ m, m = s.pk.length - 1 := ⟨_, rfl⟩
    rw [← hm4] at hcc4
    have e4 : (s.pk.length : Int) - 1 = ((m4 : Nat) : Int) := by omega
    have hml4 : m4 < s.pk.length := by omega
    have hc4 := hcc4 0 _ rfl
    rw [Nat.add_zero] at hc4
    clear hcc4 hgd4 hm4 hz HZK
    go_wp2_with fail
    clear e4 hc4
    have hbw0 : Below w.heap.size w (w.alloc (.cells #[.slice (some ⟨b4, off4, none⟩) s.pk.length a, .slice B s.sn.length b, .slice C s.lg.length c] 27)) := below_alloc _ _
    have k0 : Blk (w.alloc (.cells #[.slice (some ⟨b4, off4, none⟩) s.pk.length a, .slice B s.sn.length b, .slice C s.lg.length c] 27)) (w.heap.size) 27 #[.slice (some ⟨b4, off4, none⟩) s.pk.length a, .slice B s.sn.length b, .slice C s.lg.length c] := by
      have hk := Blk.new w 27 #[.slice (some ⟨b4, off4, none⟩) s.pk.length a, .slice B s.sn.length b, .slice C s.lg.length c]
      exact hk
    have hsw0 : w.heap.size + 1 ≤ (w.alloc (.cells #[.slice (some ⟨b4, off4, none⟩) s.pk.length a, .slice B s.sn.length b, .slice C s.lg.length c] 27)).heap.size := by simp only [World.size_alloc]; omega
    generalize (w.alloc (.cells #[.slice (some ⟨b4, off4, none⟩) s.pk.length a, .slice B s.sn.length b, .slice C s.lg.length c] 27)) = w0 at *
    have ck0 := k0.cell
    have fk0 := k0.frozen
    have h3w := RHdsL.loc.below h3 hbw0 hhi
    go_loop [5, 6] (fun ss ii => ∃ k : Nat, k ≤ s.lg.length ∧ ii = .int .i64 k ∧ ss = .int .i64 (maxLg (s.lg.take k))) (fun _ ii => s.lg.length - (intOf ii).toNat)
    case atStart => exact ⟨0, Nat.zero_le _, rfl, rfl⟩
    case round =>
      obtain ⟨k, hkl, rfl, rfl⟩ := hrel
      by_cases hlt : k < s.lg.length
      · obtain ⟨x, hxk⟩ := some_of_lt hlt
        have hxs := HS.out.2.2 x (List.mem_of_getElem? hxk)
        obtain ⟨b5, off, es, e0, _, _, _, ⟨rfl, hgd⟩, hcc⟩ := h3w.at_ hxk
        subst e0
        have hg1 : In64 x.s := hgd.2
        unfold In64 at hg1
        have hc0 : w0.cell? ⟨b5, off + k * 2 + 1, none⟩ = some (.int .i64 x.s) := by simpa using hcc 1 _ rfl
        have hm := maxLg_le (l := s.lg.take k) (b := 1000001) (by omega) fun y hy => by have := HS.out.2.2 y (List.mem_of_mem_take hy); omega
        have hnx := maxLg_take hxk
        have HN := Lib.hid hnx
        clear hnx hxk hcc hgd
        revert HN hm
        generalize maxLg (s.lg.take k) = m
        intro hm HN
        go_wp2_with fail
        go_round
        case rel => exact ⟨k + 1, by omega, by go_num, by rw [HN.out, max_if]⟩
        case measure => simp [intOf]; omega
      · obtain rfl : k = s.lg.length := by omega
        rw [List.take_length]
        have h2w := RSnsL.loc.below h2 hbw0 hhi
        rcases Nat.eq_zero_or_pos s.sn.length with hy | hy
        · have t2 : decide (0 < s.sn.length) = false := decide_eq_false (by omega)
          have hq : nextSn s = maxLg s.lg := by unfold nextSn; rw [List.length_eq_zero_iff.1 hy]; rfl
          have HQ := Lib.hid hq; have HY := Lib.hid hy
          clear hq hy
          go_wp2_with fail
          go_ret2
          exact ⟨by rw [HP.out, HQ.out]; rfl, hbw0⟩
        · have t2 : decide (0 < s.sn.length) = true := decide_eq_true (by omega)
          obtain ⟨y, hyk, hyl⟩ := last_at hy
          have hys := HS.out.2.1 y (List.mem_of_getElem? hyk)
          have hyn := HNN.out y (List.mem_of_getElem? hyk)
          unfold In64 at hyn
          have hq : nextSn s = max (maxLg s.lg) (y.no + 1) := by unfold nextSn; rw [hyl]
          obtain ⟨b5, off, es, e0, _, _, _, ⟨v5, rfl, hgd⟩, hcc⟩ := h2w.at_ hyk
          subst e0
          obtain ⟨m, hm⟩ : ∃ m, m = s.sn.length - 1 := ⟨_, rfl⟩
          rw [← hm] at hcc
          have e1 : (s.sn.length : Int) - 1 = ((m : Nat) : Int) := by omega
          have hml : m < s.sn.length := by omega
          have hc0 : w0.cell? ⟨b5, off + m * 2, none⟩ = some (.int .i64 y.no) := by simpa using hcc 0 _ rfl
          have HQ := Lib.hid hq
          clear hq hyl hyk hcc hgd hm hy
          go_wp2_with fail
          all_goals
            go_ret2
            exact ⟨by rw [HP.out, HQ.out]; first | (rw [Int.max_eq_right (by omega)]; rfl) | (rw [Int.max_eq_left (by omega)]; rfl), hbw0⟩
end Go.Proofs.Ytpdkgpbfmpekgaa




/- A tree saved into a store, by the reference. -/
namespace Go.Proofs.Ytpdkgpbfmpekgaa
open Go.RowKit

/-- Pieces, packed four by four. -/
def packsL (key : Int) (no : Int) (l : List ByteArray) : List Pk :=
  if h : l = [] then [] else ⟨no, makeI key (l.take 4)⟩ :: packsL key (no + 1) (l.drop 4)
termination_by l.length
decreasing_by
  have : 0 < l.length := List.length_pos_iff.2 h
  rw [List.length_drop]; omega
theorem packsL_nil (key no : Int) : packsL key no [] = [] := by rw [packsL]; rfl
theorem packsL_step (key no : Int) {l : List ByteArray} (h : 0 < l.length) : packsL key no l = ⟨no, makeI key (l.take 4)⟩ :: packsL key (no + 1) (l.drop 4) := by
  rw [packsL, dif_neg (by rintro rfl; simp at h)]
theorem packsL_len (key : Int) : ∀ (n : Nat) (no : Int) (l : List ByteArray), l.length ≤ n → (packsL key no l).length ≤ n
  | 0, no, l, h => by rw [List.length_eq_zero_iff.1 (by omega : l.length = 0), packsL_nil]; simp
  | n + 1, no, l, h => by
    rcases Nat.eq_zero_or_pos l.length with hz | hz
    · rw [List.length_eq_zero_iff.1 hz, packsL_nil]; simp
    · rw [packsL_step key no hz, List.length_cons]
      have := packsL_len key n (no + 1) (l.drop 4) (by rw [List.length_drop]; omega)
      omega
open Classical in
/-- The index of packs. -/
noncomputable def ixOf (l : List Pk) : List Sp := if ∀ s ∈ spots l, spP s then putsS (spots l) [] else []
theorem ixOf_is (l : List Pk) : IOf l (ixOf l) := by
  unfold ixOf
  by_cases h : ∀ s ∈ spots l, spP s
  · rw [if_pos h]; exact .inl ⟨h, rfl⟩
  · rw [if_neg h]; exact .inr ⟨h, rfl⟩
/-- The packs of a tree that is saved. -/
noncomputable def newPks (key : Int) (s : Sto) (t : List Nd) : List Pk := packsL key (nextPk s.pk) (newL key (ixOf s.pk) t)
/-- There is room for it. -/
def roomP (key : Int) (s : Sto) (t : List Nd) : Prop := (s.pk ++ newPks key s t).length ≤ 20 ∧ nextPk s.pk + (newPks key s t).length - 1 ≤ 99 ∧ nextSn s ≤ 20 ∧ s.lg.length < 9
noncomputable def savedS (key : Int) (s : Sto) (by_ : Int) (t : List Nd) : Sto := ⟨s.pk ++ newPks key s t, s.sn ++ [snapL (nextSn s) key t], s.lg ++ [⟨by_, nextSn s⟩]⟩

/-- What a store that is made holds on to. -/
structure SvSt (w wr : World) (va vb vc : Value) (gm : Nat) (vp vs vl : Value) (pk : List Pk) (sn : List Sn) (lg : List Hd) (H : Nat) : Prop where
  k0 : Blk wr w.heap.size 27 #[va, vb, vc]
  k1 : Blk wr (w.heap.size + 1) 27 #[.slice none 0 0, .slice none 0 0, .slice none 0 0]
  m : Blk wr gm 27 #[vp, vs, vl]
  op : OPks wr w.heap.size H pk [vp]
  os : OSns wr w.heap.size H sn [vs]
  ol : OHds wr w.heap.size H lg [vl]
  bl : Below w.heap.size w wr
  gm1 : w.heap.size + 1 < gm
  gm2 : gm < wr.heap.size
  hH : H ≤ wr.heap.size
theorem SvSt.below {w wr w' : World} {va vb vc : Value} {gm : Nat} {vp vs vl : Value} {pk : List Pk} {sn : List Sn} {lg : List Hd} {H : Nat} (h : SvSt w wr va vb vc gm vp vs vl pk sn lg H) (hb : Below wr.heap.size wr w') : SvSt w w' va vb vc gm vp vs vl pk sn lg H :=
  ⟨blk_keep h.k0 hb, blk_keep h.k1 hb, blk_keep h.m hb, OPks.tloc.below h.op hb h.hH, OSns.tloc.below h.os hb h.hH, OHds.tloc.below h.ol hb h.hH, below_below h.bl hb, h.gm1, Nat.lt_of_lt_of_le h.gm2 hb.size, Nat.le_trans h.hH hb.size⟩
theorem SvSt.up {w wr : World} {va vb vc : Value} {gm : Nat} {vp vs vl : Value} {pk : List Pk} {sn : List Sn} {lg : List Hd} {H H' : Nat} (h : SvSt w wr va vb vc gm vp vs vl pk sn lg H) (h1 : H ≤ H') (h2 : H' ≤ wr.heap.size) : SvSt w wr va vb vc gm vp vs vl pk sn lg H' :=
  ⟨h.k0, h.k1, h.m, OPks.tloc.wide h.op (Nat.le_refl _) h1, OSns.tloc.wide h.os (Nat.le_refl _) h1, OHds.tloc.wide h.ol (Nat.le_refl _) h1, h.bl, h.gm1, h.gm2, h2⟩
def lenV : Value → Nat
  | .slice _ n _ => n
  | _ => 0
def SavePost (key : Int) (s : Sto) (by_ : Int) (t : List Nd) (w : World) (e : Ending) (w' : World) : Prop :=
  ∃ va vb vc q r, e = .returned (.tuple #[.agg #[va, vb, vc], .bool q]) ∧ OSto w' w.heap.size w'.heap.size r va vb vc ∧ ((q = true ∧ roomP key s t ∧ r = savedS key s by_ t) ∨ (q = false ∧ ¬ roomP key s t ∧ r = s)) ∧ Below w.heap.size w w'
set_option maxRecDepth 8000 in
set_option maxHeartbeats 8000000 in
theorem l21Save_any (key : Int) (hk : 1 ≤ key ∧ key ≤ 99) (s : Sto) (by_ : Int) (hby : In64 by_) (t : List Nd) (ht : ∀ x ∈ t, textB x.b = true) (hl : t.length ≤ 10) (hs : smallS 1000000 s) (hs1 : (spots s.pk).length ≤ 10000) (hs2 : bSto s ≤ 1000000)
    (va vb vc vt : Value) (w : World) (lo hi lo2 hi2 : Nat) (h : OSto w lo hi s va vb vc) (hhi : hi ≤ w.heap.size) (h1 : RNds w lo2 hi2 t [vt]) (hhi2 : hi2 ≤ w.heap.size) :
    Calls Try.prog 26 #[.int .i64 key, .agg #[va, vb, vc], .int .i64 by_, vt] w (SavePost key s by_ t w) := by
  have HT := Lib.hid ht; have HS := Lib.hid hs; have HK := Lib.hid hk; have HBY := Lib.hid hby
  clear ht hs hby
  obtain ⟨A, a, rfl⟩ := h.pk.form
  obtain ⟨B, b, rfl⟩ := h.sn.form
  obtain ⟨C, c, rfl⟩ := h.lg.form
  obtain ⟨D, d, rfl⟩ := h1.form
  have hpl : s.pk.length ≤ 1000000 := by
    have h1 := bulkS_len (f := bPk) (l := s.pk)
    unfold bSto at hs2
    omega
  have hsl : s.sn.length ≤ 1000000 := by
    have h1 := bulkS_len (f := bSn) (l := s.sn)
    unfold bSto at hs2
    omega
  have hll : s.lg.length ≤ 1000000 := by unfold bSto at hs2; omega
  go_enter Try.func26, Try.ntmps26
  go_wp2_with fail
  have hbw0 : Below w.heap.size w ((w.alloc (.cells #[.slice A s.pk.length a, .slice B s.sn.length b, .slice C s.lg.length c] 27)).alloc (.cells #[.slice none 0 0, .slice none 0 0, .slice none 0 0] 27)) := below_alloc' (below_alloc _ _) _
  have k0 : Blk ((w.alloc (.cells #[.slice A s.pk.length a, .slice B s.sn.length b, .slice C s.lg.length c] 27)).alloc (.cells #[.slice none 0 0, .slice none 0 0, .slice none 0 0] 27)) (w.heap.size) 27 #[.slice A s.pk.length a, .slice B s.sn.length b, .slice C s.lg.length c] := by
    have hk := blk_alloc (Blk.new w 27 #[.slice A s.pk.length a, .slice B s.sn.length b, .slice C s.lg.length c]) (.cells #[.slice none 0 0, .slice none 0 0, .slice none 0 0] 27)
    exact hk
  have k1 : Blk ((w.alloc (.cells #[.slice A s.pk.length a, .slice B s.sn.length b, .slice C s.lg.length c] 27)).alloc (.cells #[.slice none 0 0, .slice none 0 0, .slice none 0 0] 27)) (w.heap.size + 1) 27 #[.slice none 0 0, .slice none 0 0, .slice none 0 0] := by
    have hk := Blk.new (w.alloc (.cells #[.slice A s.pk.length a, .slice B s.sn.length b, .slice C s.lg.length c] 27)) 27 #[.slice none 0 0, .slice none 0 0, .slice none 0 0]
    simp only [World.size_alloc] at hk
    exact hk
  have hsw0 : w.heap.size + 2 ≤ ((w.alloc (.cells #[.slice A s.pk.length a, .slice B s.sn.length b, .slice C s.lg.length c] 27)).alloc (.cells #[.slice none 0 0, .slice none 0 0, .slice none 0 0] 27)).heap.size := by simp only [World.size_alloc]; omega
  generalize ((w.alloc (.cells #[.slice A s.pk.length a, .slice B s.sn.length b, .slice C s.lg.length c] 27)).alloc (.cells #[.slice none 0 0, .slice none 0 0, .slice none 0 0] 27)) = w0 at *
  have ck0 := k0.cell
  have fk0 := k0.frozen
  have ck1 := k1.cell
  have fk1 := k1.frozen
  have hst0 := h.below hbw0 hhi
  refine (l21Copy_any s _ _ _ w0 lo hi hst0.l (by omega) (by omega)).mono ?_
  rintro e w1 ⟨vp, vs, vl, rfl, oc, b1⟩
  obtain ⟨Ap, cp, rfl⟩ := oc.pk.form
  obtain ⟨As, cs, rfl⟩ := oc.sn.form
  obtain ⟨Al, cl, rfl⟩ := oc.lg.form
  replace k0 := blk_keep k0 b1
  replace ck0 := k0.cell
  replace fk0 := k0.frozen
  replace k1 := blk_keep k1 b1
  replace ck1 := k1.cell
  replace fk1 := k1.frozen
  replace hbw0 := below_below hbw0 b1
  have HOC := Lib.hid oc
  have z1 := b1.size
  clear oc hst0
  have ax := below_alloc w1 (.cells #[.slice Ap s.pk.length cp, .slice As s.sn.length cs, .slice Al s.lg.length cl] 27)
  have ka0 := (blk_keep k0 ax).cell
  go_wp2_with fail
  clear ax ka0
  have hbw2 : Below w1.heap.size w1 (w1.alloc (.cells #[.slice Ap s.pk.length cp, .slice As s.sn.length cs, .slice Al s.lg.length cl] 27)) := below_alloc _ _
  have m0 : Blk (w1.alloc (.cells #[.slice Ap s.pk.length cp, .slice As s.sn.length cs, .slice Al s.lg.length cl] 27)) (w1.heap.size) 27 #[.slice Ap s.pk.length cp, .slice As s.sn.length cs, .slice Al s.lg.length cl] := by
    have hk := Blk.new w1 27 #[.slice Ap s.pk.length cp, .slice As s.sn.length cs, .slice Al s.lg.length cl]
    exact hk
  have hsw2 : w1.heap.size + 1 ≤ (w1.alloc (.cells #[.slice Ap s.pk.length cp, .slice As s.sn.length cs, .slice Al s.lg.length cl] 27)).heap.size := by simp only [World.size_alloc]; omega
  generalize (w1.alloc (.cells #[.slice Ap s.pk.length cp, .slice As s.sn.length cs, .slice Al s.lg.length cl] 27)) = w2 at *
  have cm0 := m0.cell
  have fm0 := m0.frozen
  replace k0 := blk_keep k0 hbw2
  replace ck0 := k0.cell
  replace fk0 := k0.frozen
  replace k1 := blk_keep k1 hbw2
  replace ck1 := k1.cell
  replace fk1 := k1.frozen
  have hoc2 := HOC.out.below hbw2 (Nat.le_refl _)
  have hsv : SvSt w w2 (.slice A s.pk.length a) (.slice B s.sn.length b) (.slice C s.lg.length c) w1.heap.size (.slice Ap s.pk.length cp) (.slice As s.sn.length cs) (.slice Al s.lg.length cl) s.pk s.sn s.lg w1.heap.size :=
    ⟨k0, k1, m0, OPks.tloc.wide hoc2.pk (by omega) (Nat.le_refl _), OSns.tloc.wide hoc2.sn (by omega) (Nat.le_refl _), OHds.tloc.wide hoc2.lg (by omega) (Nat.le_refl _), below_below hbw0 hbw2, by omega, by omega, hbw2.size⟩
  obtain ⟨gm, hgm⟩ : ∃ gm, gm = w1.heap.size := ⟨_, rfl⟩
  rw [← hgm] at hsv ⊢
  have HSV := Lib.hid hsv
  have hst2 := h.below (below_below hbw0 hbw2) hhi
  have HST := Lib.hid hst2
  clear hgm hsv hoc2 HOC k0 k1 m0 ck0 ck1 cm0 fk0 fk1 fm0 hbw0 hbw2 b1
  refine (l21Next_any s HS.out _ _ _ w2 lo hi hst2.l (by have := HSV.out.bl.size; omega)).mono ?_
  rintro e w3 ⟨rfl, b3⟩
  have hsv3 := HSV.out.below b3
  have HSV3 := Lib.hid hsv3
  have hst3 := HST.out.below b3 (by have := HSV.out.bl.size; omega)
  have HST3 := Lib.hid hst3
  have ck0 := hsv3.k0.cell
  have z3 := hsv3.bl.size
  clear hsv3 HSV HST hst2 b3
  go_wp2_with fail
  refine (specIndexOf_any s.pk _ w3 lo hi (by omega) (OPks.t hst3.pk) (by omega) (ixOf s.pk) (ixOf_is _)).mono ?_
  rintro e w4 ⟨vi, rfl, oi, b4⟩
  clear hst3
  have hix := (ixOf_is s.pk).ix
  have hir := ((oi.deep (sp_good hix) 0).sl (Nat.zero_le _)).1
  have hsv4 := HSV3.out.below b4
  have HSV4 := Lib.hid hsv4
  have ht4 := RNds.tloc.wide (RNds.tloc.below h1 hsv4.bl hhi2) (Nat.zero_le lo2) (show hi2 ≤ w4.heap.size by have := hsv4.bl.size; omega)
  obtain ⟨Ai, ci, rfl⟩ := oi.form
  clear hsv4 HSV3 ck0 oi hix b4
  have HROOM : Hid (roomP key s t ↔ ((s.pk ++ packsL key (nextPk s.pk) (newL key (ixOf s.pk) t)).length ≤ 20 ∧ nextPk s.pk + (packsL key (nextPk s.pk) (newL key (ixOf s.pk) t)).length - 1 ≤ 99 ∧ nextSn s ≤ 20 ∧ s.lg.length < 9)) := Lib.hid Iff.rfl
  have HSAVED : Hid (savedS key s by_ t = ⟨s.pk ++ packsL key (nextPk s.pk) (newL key (ixOf s.pk) t), s.sn ++ [snapL (nextSn s) key t], s.lg ++ [⟨by_, nextSn s⟩]⟩) := Lib.hid rfl
  have hn0 : -9223372036854775807 ≤ nextPk s.pk ∧ nextPk s.pk ≤ 1000001 := by
    rcases Nat.eq_zero_or_pos s.pk.length with hz | hz
    · rw [List.length_eq_zero_iff.1 hz]; show _ ≤ (1 : Int) ∧ (1 : Int) ≤ _; omega
    · obtain ⟨z, hzk, hzl⟩ := last_at hz
      have hzs := HS.out.1 z (List.mem_of_getElem? hzk)
      obtain ⟨es, v, _, hg, _⟩ := (HST3.out.l).pk.all_ z (List.mem_of_getElem? hzk)
      unfold In64 at hg
      unfold nextPk
      rw [hzl]
      show _ ≤ z.no + 1 ∧ z.no + 1 ≤ _
      omega
  have hs0 : -9223372036854775807 ≤ nextSn s ∧ nextSn s ≤ 1000001 := by
    have hm := maxLg_le (l := s.lg) (b := 1000001) (by omega) fun x hx => by have := HS.out.2.2 x hx; omega
    unfold nextSn
    cases hgl : s.sn.getLast? with
    | none => show _ ≤ maxLg s.lg ∧ maxLg s.lg ≤ _; omega
    | some x =>
      have := HS.out.2.1 x (List.mem_of_getLast? hgl)
      show _ ≤ max (maxLg s.lg) (x.no + 1) ∧ max (maxLg s.lg) (x.no + 1) ≤ _
      omega
  clear HST3
  have hnl : (newL key (ixOf s.pk) t).length ≤ 400 := by
    have a1 := newF_len (key := key) (ix := ixOf s.pk) (cutsT t) []
    have a2 := cutsT_len (t := t) HT.out
    show (newF key (ixOf s.pk) [] (cutsT t)).length ≤ _
    simp only [List.length_nil, Nat.zero_add] at a1
    omega
  have hnp := newL_piece (key := key) (ix := ixOf s.pk) HT.out
  have HCN := Lib.hid (l12New_any key HK.out t HT.out (by omega) (ixOf s.pk) _ _ w4 0 w4.heap.size (Nat.le_refl _) ht4 hir)
  clear ht4 hir
  revert hnp hnl HSAVED HROOM HCN
  generalize newL key (ixOf s.pk) t = pieces
  revert hn0
  generalize nextPk s.pk = n0
  revert hs0
  generalize nextSn s = s0
  intro hs0 hn0 HROOM HSAVED hnl hnp HCN
  go_wp2_with fail
  refine HCN.out.mono ?_
  rintro e w5 ⟨vq, rfl, oq, b5⟩
  clear HCN
  have hqr := (oq.deep (fun x hx => piece_good (hnp x hx)) 0).sl (Nat.zero_le _)
  have hsv5 := HSV4.out.below b5
  have hsv5' := hsv5.up (H' := w5.heap.size) hsv5.hH (Nat.le_refl _)
  obtain ⟨Aq, cq, rfl⟩ := oq.form
  have HL0 := Lib.hid (And.intro hqr (And.intro hnp hsv5'))
  clear HSV4 hqr hnp hsv5 hsv5' oq b5
  go_wp2_with fail
  go_loopw [11, 13] (fun nn pp wr => ∃ (no : Int) (rest : List ByteArray) (pk : List Pk) (vp : Value), nn = .int .i64 no ∧ s.pk ++ packsL key n0 pieces = pk ++ packsL key no rest ∧ no = n0 + ((pk.length : Int) - s.pk.length) ∧ pk.length + rest.length ≤ s.pk.length + pieces.length ∧ s.pk.length ≤ pk.length ∧ w5.heap.size ≤ wr.heap.size ∧ RStrs wr 0 w5.heap.size rest [pp] ∧ (∀ x ∈ rest, pieceP (bs x)) ∧ SvSt w wr (.slice A s.pk.length a) (.slice B s.sn.length b) (.slice C s.lg.length c) gm vp (.slice As s.sn.length cs) (.slice Al s.lg.length cl) pk s.sn s.lg wr.heap.size) (fun _ pp _ => lenV pp)
  case atStart => exact ⟨n0, pieces, s.pk, _, rfl, rfl, by omega, Nat.le_refl _, Nat.le_refl _, Nat.le_refl _, HL0.out.1, HL0.out.2.1, HL0.out.2.2⟩
  case round =>
    clear HL0
    obtain ⟨no, rest, pk, vp', rfl, heq, hno, hln, hln2, hsz5, hr, hp, hsv⟩ := hrel
    obtain ⟨Ar, cr, rfl⟩ := hr.form
    obtain ⟨Apk, cpk, rfl⟩ := hsv.op.form
    have HEQ := Lib.hid heq; have HNO := Lib.hid hno
    have hnob : -9223372036854775807 ≤ no ∧ no ≤ 9000000 := by omega
    have HR := Lib.hid hr; have HP := Lib.hid hp; have HSV := Lib.hid hsv
    have hrl := hr.len_.2.1
    have hrm := hr.len_.2.2
    unfold maxLen at hrm
    clear heq hno hr hp hsv
    by_cases hpos : 0 < rest.length
    · have t1 : decide (0 < rest.length) = true := decide_eq_true hpos
      by_cases h4 : rest.length ≤ 4
      · have t2 : decide ((rest.length : Int) ≤ 4) = true := decide_eq_true (by omega)
        have cm0 := HSV.out.m.cell 0
        have q1 : rest.length ≤ rest.length := by omega
        have q2 : rest.take (rest.length) = rest.take 4 := by first | rfl | (rw [List.take_of_length_le (Nat.le_refl _), List.take_of_length_le h4])
        have q3 : rest.drop (rest.length) = rest.drop 4 := by first | rfl | (rw [List.drop_eq_nil_of_le (Nat.le_refl _), List.drop_eq_nil_of_le h4])
        have hps : ∀ x ∈ rest.take 4, pieceP (bs x) := fun x hx => HP.out x (List.mem_of_mem_take hx)
        have hpd : ∀ x ∈ rest.drop 4, pieceP (bs x) := fun x hx => HP.out x (List.mem_of_mem_drop hx)
        have htk := HR.out.take_ q1
        rw [q2] at htk
        have hdr := HR.out.drop_ q1
        rw [q3] at hdr
        have hstep := packsL_step key no hpos
        have h41 : (rest.take 4).length ≤ 4 := by rw [List.length_take]; omega
        have hgi := makeI_good (key := key) hps
        have h42 : (makeI key (rest.take 4)).length ≤ 4 := by rw [makeI_len]; exact h41
        have hw5 : w5.heap.size ≤ wr.heap.size := hsz5
        have i64n : In64 no := by unfold In64; omega
        have hmk := fun (y : World) (hy : Below wr.heap.size wr y) => l3Make_any no key HK.out (rest.take 4) hps (by omega) _ y 0 w5.heap.size (Nat.le_trans hw5 hy.size) (RStrs.tloc.below htk hy hw5)
        have HMK := Lib.hid hmk; have HDR := Lib.hid hdr; have HST := Lib.hid hstep; have HGI := Lib.hid hgi; have HPD := Lib.hid hpd
        have h43 : (rest.drop 4).length + (rest.length) = rest.length := by rw [← q3, List.length_drop]; omega
        have H43 := Lib.hid h43
        clear hmk hdr hstep hgi htk q2 q3 h41 hps hpd h43
        revert h42; revert HGI; revert HST; revert HMK
        generalize makeI key (rest.take 4) = L
        intro HMK HST HGI h42
        have g2 : ((rest.length : Nat) : Int) ≤ (cr : Int) := by omega
        go_wp2_with fail
        have past0 := past_cell cm0
        refine region_pastT 9 [0, 1, 2, 3, 4, 5, 6] [7, 8] (by kernel_rfl) (by kernel_rfl) (by kernel_rfl) ?_
        simp only [pick, List.map, List.getD_cons_zero, List.getD_cons_succ]
        repeat (go_big_quiet_step (fail))
        refine wpQuiet_nil ?_
        clear past0
        apply Exists.intro
        apply past_any (fun v w' => ∃ A c, v = .agg #[.int .i64 no, .slice A L.length c] ∧ OwnF FIt 57 w' wr.heap.size (.slice A L.length c) L)
        · rfl
        · exact fun v x y ⟨A, c, e, h⟩ hle => ⟨A, c, e, h.below hle⟩
        · intro x hF Qx hQ'
          have hQ := Lib.hid hQ'; clear hQ' hF
          go_wp2_with fail
          refine (HMK.out x.to x.ok).mono ?_
          rintro e wy ⟨vy, rfl, oy, by5⟩
          obtain ⟨Ay, cy, rfl⟩ := oy.form
          go_wp2_with fail
          exact hQ.out _ _ by5 ⟨_, _, rfl, oy.base x.ok.size⟩
        intro u7
        simp only [Act.put, List.setIfInBounds_toArray, List.set_cons_zero, List.set_cons_succ]
        apply past_any (fun v w' => ∃ g A c, v = .slice (some ⟨g, 0, none⟩) 1 1 ∧ Blk w' g 37 #[.int .i64 no, .slice A L.length c] ∧ OwnF FIt 57 w' wr.heap.size (.slice A L.length c) L)
        · rfl
        · exact fun v x y ⟨g, A, c, e, hk, h⟩ hle => ⟨g, A, c, e, blk_keep hk hle, h.below hle⟩
        · intro x hF Qx hQ'
          have hQ := Lib.hid hQ'; clear hQ'
          obtain ⟨A5, c5, rfl, ho⟩ := hF.1 (by kernel_rfl)
          go_wp2_with fail
          have ba := below_alloc x.to (.cells #[.int .i64 no, .slice A5 L.length c5] 37)
          exact hQ.out _ _ ba ⟨_, _, _, rfl, Blk.new _ _ _, ho.below ba⟩
        intro u8
        simp only [Act.put, List.setIfInBounds_toArray, List.set_cons_zero, List.set_cons_succ]
        refine past_end ?_
        intro w6 hb6 xx hxx hF
        dsimp only [allF] at hF
        try rw [hxx] at hF
        clear hxx xx
        obtain ⟨⟨g8, A8, c8, rfl, kb8, o8⟩, -⟩ := hF
        simp only [List.drop]
        have z6 := hb6.size
        have hsv6 := HSV.out.below hb6
        have hdr6 := RStrs.tloc.below HDR.out hb6 hw5
        have HO8 : Hid (OPk w6 wr.heap.size w6.heap.size ⟨no, L⟩ [.int .i64 no, .slice A8 L.length c8]) := Lib.hid ⟨_, rfl, i64n, o8.orow HGI.out (by omega) fun g hg => (o8.at_ hg).2⟩
        have HK8 := Lib.hid kb8
        have HV6 := Lib.hid hsv6
        have HD6 := Lib.hid hdr6
        have zb := hsv6.bl.size
        clear HSV hb6 o8 kb8 hsv6 hdr6 HDR HMK cm0 HR
        go_wp2_with (at_builtin; refine stopper ?_)
        refine ⟨?_, trivial⟩
        refine app_orow OPk.tloc (by decide) (v := .slice Apk pk.length cpk) rfl (.tmp 35) (.tmp 42) 23 rfl elem_pk ⟨no, L⟩ rfl HV6.out.op rfl HK8.out rfl (by simp [Value.oneCell']) (show wr.heap.size ≤ w6.heap.size by omega) HO8.out (Nat.le_refl _) (by omega) (by omega) ?_
        intro v9 w9 o9 ch9 at9
        obtain ⟨A9, c9, rfl⟩ := o9.form
        rw [List.length_append, List.length_singleton] at o9
        rw [List.length_append, List.length_singleton]
        have hop := HV6.out.op
        have z9 := ch9.size
        have hg1 := HV6.out.gm1
        have hg2 := HV6.out.gm2
        have hn9 := blk_own hop ch9 HV6.out.m (by decide)
        have cn9 : w9.cell? ⟨gm, 0, none⟩ = some (.slice Apk pk.length cpk) := hn9.cell 0
        have fn9 := hn9.frozen 0
        have hms := hn9.set_ 0 (.slice A9 (pk.length + 1) c9)
        simp only [List.setIfInBounds_toArray, List.set_cons_zero, List.set_cons_succ] at hms
        have hsv9 : SvSt w (w9.setCell ⟨gm, 0, none⟩ (.slice A9 (pk.length + 1) c9)) _ _ _ gm (.slice A9 (pk.length + 1) c9) (.slice As s.sn.length cs) (.slice Al s.lg.length cl) (pk ++ [⟨no, L⟩]) s.sn s.lg (w9.setCell ⟨gm, 0, none⟩ (.slice A9 (pk.length + 1) c9)).heap.size :=
          ⟨blk_ne (blk_own hop ch9 HV6.out.k0 (by decide)) (p := ⟨gm, 0, none⟩) _ (by dsimp only; omega), blk_ne (blk_own hop ch9 HV6.out.k1 (by decide)) (p := ⟨gm, 0, none⟩) _ (by dsimp only; omega), hms,
            by simp only [World.size_setCell]; exact tl_set' OPks.tloc o9 hn9 (by decide) 0 _,
            by simp only [World.size_setCell]; exact OSns.tloc.wide (tl_set' OSns.tloc (tl_own hop ch9 OSns.tloc HV6.out.os (by decide)) hn9 (by decide) 0 _) (Nat.le_refl _) (by omega),
            by simp only [World.size_setCell]; exact OHds.tloc.wide (tl_set' OHds.tloc (tl_own hop ch9 OHds.tloc HV6.out.ol (by decide)) hn9 (by decide) 0 _) (Nat.le_refl _) (by omega),
            (HV6.out.bl.trans (ch9.below HV6.out.bl.size fun i hi hs => by have := hop.ob hs; omega)).setCell (by dsimp only; omega) _, hg1, by simp only [World.size_setCell]; omega, Nat.le_refl _⟩
        have hdr9 : RStrs (w9.setCell ⟨gm, 0, none⟩ (.slice A9 (pk.length + 1) c9)) 0 w5.heap.size (rest.drop 4) _ := tl_set' RStrs.tloc (tl_own hop ch9 RStrs.tloc HD6.out (by decide)) hn9 (by decide) 0 _
        have HSV9 := Lib.hid hsv9; have HDR9 := Lib.hid hdr9
        have HZ9 : Hid (w5.heap.size ≤ (w9.setCell ⟨gm, 0, none⟩ (.slice A9 (pk.length + 1) c9)).heap.size) := Lib.hid (by simp only [World.size_setCell]; omega)
        clear hsv9 hdr9 hms hop hn9
        go_wp2_with fail
        go_roundw
        case rel => exact ⟨no + 1, rest.drop 4, pk ++ [⟨no, L⟩], _, rfl, by rw [HEQ.out, HST.out, List.append_assoc]; rfl, by have := HNO.out; rw [List.length_append, List.length_singleton]; omega, by have := H43.out; rw [List.length_append, List.length_singleton]; omega, by rw [List.length_append, List.length_singleton]; omega, HZ9.out, by have := HDR9.out; first | (simpa only [Nat.mul_one, Nat.sub_self] using this) | (simp only [if_neg (show ¬ cr = 4 by omega), Addr.add] at this; simpa using this), HPD.out, HSV9.out⟩
        case measure => simp [lenV]; omega
      · have t2 : decide ((rest.length : Int) ≤ 4) = false := decide_eq_false (by omega)
        have cm0 := HSV.out.m.cell 0
        have q1 : 4 ≤ rest.length := by omega
        have q2 : rest.take (4) = rest.take 4 := by first | rfl | (rw [List.take_of_length_le (Nat.le_refl _), List.take_of_length_le h4])
        have q3 : rest.drop (4) = rest.drop 4 := by first | rfl | (rw [List.drop_eq_nil_of_le (Nat.le_refl _), List.drop_eq_nil_of_le h4])
        have hps : ∀ x ∈ rest.take 4, pieceP (bs x) := fun x hx => HP.out x (List.mem_of_mem_take hx)
        have hpd : ∀ x ∈ rest.drop 4, pieceP (bs x) := fun x hx => HP.out x (List.mem_of_mem_drop hx)
        have htk := HR.out.take_ q1
        rw [q2] at htk
        have hdr := HR.out.drop_ q1
        rw [q3] at hdr
        have hstep := packsL_step key no hpos
        have h41 : (rest.take 4).length ≤ 4 := by rw [List.length_take]; omega
        have hgi := makeI_good (key := key) hps
        have h42 : (makeI key (rest.take 4)).length ≤ 4 := by rw [makeI_len]; exact h41
        have hw5 : w5.heap.size ≤ wr.heap.size := hsz5
        have i64n : In64 no := by unfold In64; omega
        have hmk := fun (y : World) (hy : Below wr.heap.size wr y) => l3Make_any no key HK.out (rest.take 4) hps (by omega) _ y 0 w5.heap.size (Nat.le_trans hw5 hy.size) (RStrs.tloc.below htk hy hw5)
        have HMK := Lib.hid hmk; have HDR := Lib.hid hdr; have HST := Lib.hid hstep; have HGI := Lib.hid hgi; have HPD := Lib.hid hpd
        have h43 : (rest.drop 4).length + (4) = rest.length := by rw [← q3, List.length_drop]; omega
        have H43 := Lib.hid h43
        clear hmk hdr hstep hgi htk q2 q3 h41 hps hpd h43
        revert h42; revert HGI; revert HST; revert HMK
        generalize makeI key (rest.take 4) = L
        intro HMK HST HGI h42
        have g2 : ((4 : Nat) : Int) ≤ (cr : Int) := by omega
        go_wp2_with fail
        have past0 := past_cell cm0
        refine region_pastT 9 [0, 1, 2, 3, 4, 5, 6] [7, 8] (by kernel_rfl) (by kernel_rfl) (by kernel_rfl) ?_
        simp only [pick, List.map, List.getD_cons_zero, List.getD_cons_succ]
        repeat (go_big_quiet_step (fail))
        refine wpQuiet_nil ?_
        clear past0
        apply Exists.intro
        apply past_any (fun v w' => ∃ A c, v = .agg #[.int .i64 no, .slice A L.length c] ∧ OwnF FIt 57 w' wr.heap.size (.slice A L.length c) L)
        · rfl
        · exact fun v x y ⟨A, c, e, h⟩ hle => ⟨A, c, e, h.below hle⟩
        · intro x hF Qx hQ'
          have hQ := Lib.hid hQ'; clear hQ' hF
          go_wp2_with fail
          refine (HMK.out x.to x.ok).mono ?_
          rintro e wy ⟨vy, rfl, oy, by5⟩
          obtain ⟨Ay, cy, rfl⟩ := oy.form
          go_wp2_with fail
          exact hQ.out _ _ by5 ⟨_, _, rfl, oy.base x.ok.size⟩
        intro u7
        simp only [Act.put, List.setIfInBounds_toArray, List.set_cons_zero, List.set_cons_succ]
        apply past_any (fun v w' => ∃ g A c, v = .slice (some ⟨g, 0, none⟩) 1 1 ∧ Blk w' g 37 #[.int .i64 no, .slice A L.length c] ∧ OwnF FIt 57 w' wr.heap.size (.slice A L.length c) L)
        · rfl
        · exact fun v x y ⟨g, A, c, e, hk, h⟩ hle => ⟨g, A, c, e, blk_keep hk hle, h.below hle⟩
        · intro x hF Qx hQ'
          have hQ := Lib.hid hQ'; clear hQ'
          obtain ⟨A5, c5, rfl, ho⟩ := hF.1 (by kernel_rfl)
          go_wp2_with fail
          have ba := below_alloc x.to (.cells #[.int .i64 no, .slice A5 L.length c5] 37)
          exact hQ.out _ _ ba ⟨_, _, _, rfl, Blk.new _ _ _, ho.below ba⟩
        intro u8
        simp only [Act.put, List.setIfInBounds_toArray, List.set_cons_zero, List.set_cons_succ]
        refine past_end ?_
        intro w6 hb6 xx hxx hF
        dsimp only [allF] at hF
        try rw [hxx] at hF
        clear hxx xx
        obtain ⟨⟨g8, A8, c8, rfl, kb8, o8⟩, -⟩ := hF
        simp only [List.drop]
        have z6 := hb6.size
        have hsv6 := HSV.out.below hb6
        have hdr6 := RStrs.tloc.below HDR.out hb6 hw5
        have HO8 : Hid (OPk w6 wr.heap.size w6.heap.size ⟨no, L⟩ [.int .i64 no, .slice A8 L.length c8]) := Lib.hid ⟨_, rfl, i64n, o8.orow HGI.out (by omega) fun g hg => (o8.at_ hg).2⟩
        have HK8 := Lib.hid kb8
        have HV6 := Lib.hid hsv6
        have HD6 := Lib.hid hdr6
        have zb := hsv6.bl.size
        clear HSV hb6 o8 kb8 hsv6 hdr6 HDR HMK cm0 HR
        go_wp2_with (at_builtin; refine stopper ?_)
        refine ⟨?_, trivial⟩
        refine app_orow OPk.tloc (by decide) (v := .slice Apk pk.length cpk) rfl (.tmp 35) (.tmp 42) 23 rfl elem_pk ⟨no, L⟩ rfl HV6.out.op rfl HK8.out rfl (by simp [Value.oneCell']) (show wr.heap.size ≤ w6.heap.size by omega) HO8.out (Nat.le_refl _) (by omega) (by omega) ?_
        intro v9 w9 o9 ch9 at9
        obtain ⟨A9, c9, rfl⟩ := o9.form
        rw [List.length_append, List.length_singleton] at o9
        rw [List.length_append, List.length_singleton]
        have hop := HV6.out.op
        have z9 := ch9.size
        have hg1 := HV6.out.gm1
        have hg2 := HV6.out.gm2
        have hn9 := blk_own hop ch9 HV6.out.m (by decide)
        have cn9 : w9.cell? ⟨gm, 0, none⟩ = some (.slice Apk pk.length cpk) := hn9.cell 0
        have fn9 := hn9.frozen 0
        have hms := hn9.set_ 0 (.slice A9 (pk.length + 1) c9)
        simp only [List.setIfInBounds_toArray, List.set_cons_zero, List.set_cons_succ] at hms
        have hsv9 : SvSt w (w9.setCell ⟨gm, 0, none⟩ (.slice A9 (pk.length + 1) c9)) _ _ _ gm (.slice A9 (pk.length + 1) c9) (.slice As s.sn.length cs) (.slice Al s.lg.length cl) (pk ++ [⟨no, L⟩]) s.sn s.lg (w9.setCell ⟨gm, 0, none⟩ (.slice A9 (pk.length + 1) c9)).heap.size :=
          ⟨blk_ne (blk_own hop ch9 HV6.out.k0 (by decide)) (p := ⟨gm, 0, none⟩) _ (by dsimp only; omega), blk_ne (blk_own hop ch9 HV6.out.k1 (by decide)) (p := ⟨gm, 0, none⟩) _ (by dsimp only; omega), hms,
            by simp only [World.size_setCell]; exact tl_set' OPks.tloc o9 hn9 (by decide) 0 _,
            by simp only [World.size_setCell]; exact OSns.tloc.wide (tl_set' OSns.tloc (tl_own hop ch9 OSns.tloc HV6.out.os (by decide)) hn9 (by decide) 0 _) (Nat.le_refl _) (by omega),
            by simp only [World.size_setCell]; exact OHds.tloc.wide (tl_set' OHds.tloc (tl_own hop ch9 OHds.tloc HV6.out.ol (by decide)) hn9 (by decide) 0 _) (Nat.le_refl _) (by omega),
            (HV6.out.bl.trans (ch9.below HV6.out.bl.size fun i hi hs => by have := hop.ob hs; omega)).setCell (by dsimp only; omega) _, hg1, by simp only [World.size_setCell]; omega, Nat.le_refl _⟩
        have hdr9 : RStrs (w9.setCell ⟨gm, 0, none⟩ (.slice A9 (pk.length + 1) c9)) 0 w5.heap.size (rest.drop 4) _ := tl_set' RStrs.tloc (tl_own hop ch9 RStrs.tloc HD6.out (by decide)) hn9 (by decide) 0 _
        have HSV9 := Lib.hid hsv9; have HDR9 := Lib.hid hdr9
        have HZ9 : Hid (w5.heap.size ≤ (w9.setCell ⟨gm, 0, none⟩ (.slice A9 (pk.length + 1) c9)).heap.size) := Lib.hid (by simp only [World.size_setCell]; omega)
        clear hsv9 hdr9 hms hop hn9
        go_wp2_with fail
        go_roundw
        case rel => exact ⟨no + 1, rest.drop 4, pk ++ [⟨no, L⟩], _, rfl, by rw [HEQ.out, HST.out, List.append_assoc]; rfl, by have := HNO.out; rw [List.length_append, List.length_singleton]; omega, by have := H43.out; rw [List.length_append, List.length_singleton]; omega, by rw [List.length_append, List.length_singleton]; omega, HZ9.out, by have := HDR9.out; first | (simpa only [Nat.mul_one, Nat.sub_self] using this) | (simp only [if_neg (show ¬ cr = 4 by omega), Addr.add] at this; simpa using this), HPD.out, HSV9.out⟩
        case measure => simp [lenV]; omega
    · have hz : rest = [] := List.length_eq_zero_iff.1 (by omega)
      subst hz
      have hpk : s.pk ++ packsL key n0 pieces = pk := by rw [HEQ.out, packsL_nil, List.append_nil]
      have hroom : roomP key s t ↔ (pk.length ≤ 20 ∧ no - 1 ≤ 99 ∧ s0 ≤ 20 ∧ s.lg.length < 9) := by
        refine HROOM.out.trans ?_
        rw [hpk]
        have e : (pk.length : Int) = s.pk.length + (packsL key n0 pieces).length := by rw [← hpk, List.length_append]; omega
        have := HNO.out
        constructor
        · rintro ⟨a1, a2, a3, a4⟩; exact ⟨a1, by omega, a3, a4⟩
        · rintro ⟨a1, a2, a3, a4⟩; exact ⟨a1, by omega, a3, a4⟩
      have hsaved : savedS key s by_ t = ⟨pk, s.sn ++ [snapL s0 key t], s.lg ++ [⟨by_, s0⟩]⟩ := by rw [HSAVED.out, hpk]
      have HRM := Lib.hid hroom; have HSD := Lib.hid hsaved
      have hpkl : pk.length ≤ 2000000 := by omega
      clear hpk hroom hsaved HROOM HSAVED HEQ HNO HR HP hln
      have cm := HSV.out.m.cell
      have ck0 := HSV.out.k0.cell
      have i64n : In64 (no - 1) := by unfold In64; omega
      unfold In64 at i64n
      by_cases c1 : pk.length ≤ 20
      · have t3 : decide ((20 : Int) < (pk.length : Int)) = false := decide_eq_false (by omega)
        by_cases c2 : no - 1 ≤ 99
        · have t4 : decide (99 < no - 1) = false := decide_eq_false (by omega)
          by_cases c3 : s0 ≤ 20
          · have t5 : decide (20 < s0) = false := decide_eq_false (by omega)
            by_cases c4 : s.lg.length < 9
            · have t6 : decide ((9 : Int) ≤ (s.lg.length : Int)) = false := decide_eq_false (by omega)
              have HY := Lib.hid (HRM.out.2 ⟨c1, c2, c3, c4⟩)
              clear HRM
              go_wp2_with fail
              have cm1 := cm 1
              have HC := Lib.hid (fun (y : World) (hy : Below wr.heap.size wr y) => l12Of_any s0 key HK.out (by unfold In64; omega) t HT.out (by omega) _ y lo2 hi2 (by have := hy.size; have := HSV.out.bl.size; omega) (RNds.tloc.below h1 (below_below HSV.out.bl hy) hhi2))
              have past0 := past_cell cm1
              refine region_pastT 7 [0, 1, 2, 3, 4] [5, 6] (by kernel_rfl) (by kernel_rfl) (by kernel_rfl) ?_
              simp only [pick, List.map, List.getD_cons_zero, List.getD_cons_succ]
              repeat (go_big_quiet_step (fail))
              refine wpQuiet_nil ?_
              clear past0
              apply Exists.intro
              apply past_any (fun v w' => ∃ A c, v = .agg #[.int .i64 s0, .slice A (snapL s0 key t).all.length c] ∧ OLss w' wr.heap.size w'.heap.size (snapL s0 key t).all [.slice A (snapL s0 key t).all.length c])
              · rfl
              · exact fun v x y ⟨A, c, e, h⟩ hle => ⟨A, c, e, OLss.tloc.wide (OLss.tloc.below h hle (Nat.le_refl _)) (Nat.le_refl _) hle.size⟩
              · intro x hF Qx hQ'
                have hQ := Lib.hid hQ'; clear hQ' hF
                go_wp2_with fail
                refine (HC.out x.to x.ok).mono ?_
                rintro e wy ⟨vy, rfl, oy, by5⟩
                obtain ⟨Ay, cy, rfl⟩ := oy.form
                go_wp2_with fail
                exact hQ.out _ _ by5 ⟨_, _, rfl, OLss.tloc.wide oy x.ok.size (Nat.le_refl _)⟩
              intro u5
              simp only [Act.put, List.setIfInBounds_toArray, List.set_cons_zero, List.set_cons_succ]
              apply past_any (fun v w' => ∃ g A c, v = .slice (some ⟨g, 0, none⟩) 1 1 ∧ Blk w' g 52 #[.int .i64 s0, .slice A (snapL s0 key t).all.length c] ∧ OLss w' wr.heap.size w'.heap.size (snapL s0 key t).all [.slice A (snapL s0 key t).all.length c])
              · rfl
              · exact fun v x y ⟨g, A, c, e, hk, h⟩ hle => ⟨g, A, c, e, blk_keep hk hle, OLss.tloc.wide (OLss.tloc.below h hle (Nat.le_refl _)) (Nat.le_refl _) hle.size⟩
              · intro x hF Qx hQ'
                have hQ := Lib.hid hQ'; clear hQ'
                obtain ⟨A5, c5, rfl, ho⟩ := hF.1 (by kernel_rfl)
                go_wp2_with fail
                have ba := below_alloc x.to (.cells #[.int .i64 s0, .slice A5 (snapL s0 key t).all.length c5] 52)
                exact hQ.out _ _ ba ⟨_, _, _, rfl, Blk.new _ _ _, OLss.tloc.wide (OLss.tloc.below ho ba (Nat.le_refl _)) (Nat.le_refl _) ba.size⟩
              intro u6
              simp only [Act.put, List.setIfInBounds_toArray, List.set_cons_zero, List.set_cons_succ]
              refine past_end ?_
              intro w6 hb6 xx hxx hF
              dsimp only [allF] at hF
              try rw [hxx] at hF
              clear hxx xx
              obtain ⟨⟨g8, A8, c8, rfl, kb8, o8⟩, -⟩ := hF
              simp only [List.drop]
              have z6 := hb6.size
              have hsv6 := HSV.out.below hb6
              have HO8 : Hid (OSn w6 wr.heap.size w6.heap.size (snapL s0 key t) [.int .i64 s0, .slice A8 (snapL s0 key t).all.length c8]) := Lib.hid ⟨_, rfl, by show In64 s0; unfold In64; omega, o8⟩
              have HK8 := Lib.hid kb8
              have HV6 := Lib.hid hsv6
              have zb := hsv6.bl.size
              clear HSV hb6 o8 kb8 hsv6 cm cm1 ck0 HC
              go_wp2_with (at_builtin; refine stopper ?_)
              refine ⟨?_, trivial⟩
              refine app_orow OSn.tloc (by decide) (v := .slice As s.sn.length cs) rfl (.tmp 72) (.tmp 77) 24 rfl elem_sn (snapL s0 key t) rfl HV6.out.os rfl HK8.out rfl (by simp [Value.oneCell']) (show wr.heap.size ≤ w6.heap.size by omega) HO8.out (Nat.le_refl _) (by omega) (by omega) ?_
              intro v9 w9 o9 ch9 at9
              obtain ⟨A9, c9, rfl⟩ := o9.form
              rw [List.length_append, List.length_singleton] at o9
              rw [List.length_append, List.length_singleton]
              have hop := HV6.out.os
              have z9 := ch9.size
              have hg1 := HV6.out.gm1
              have hg2 := HV6.out.gm2
              have hn9 := blk_own hop ch9 HV6.out.m (by decide)
              have cn9 : w9.cell? ⟨gm, 1, none⟩ = some (.slice As s.sn.length cs) := hn9.cell 1
              have fn9 := hn9.frozen 1
              have hms := hn9.set_ 1 (.slice A9 (s.sn.length + 1) c9)
              simp only [List.setIfInBounds_toArray, List.set_cons_zero, List.set_cons_succ] at hms
              have hsv9 : SvSt w (w9.setCell ⟨gm, 1, none⟩ (.slice A9 (s.sn.length + 1) c9)) (.slice A s.pk.length a) (.slice B s.sn.length b) (.slice C s.lg.length c) gm (.slice Apk pk.length cpk) (.slice A9 (s.sn.length + 1) c9) (.slice Al s.lg.length cl) pk (s.sn ++ [snapL s0 key t]) s.lg (w9.setCell ⟨gm, 1, none⟩ (.slice A9 (s.sn.length + 1) c9)).heap.size :=
                ⟨blk_ne (blk_own hop ch9 HV6.out.k0 (by decide)) (p := ⟨gm, 1, none⟩) _ (by dsimp only; omega), blk_ne (blk_own hop ch9 HV6.out.k1 (by decide)) (p := ⟨gm, 1, none⟩) _ (by dsimp only; omega), hms,
                  by simp only [World.size_setCell]; exact OPks.tloc.wide (tl_set' OPks.tloc (tl_own hop ch9 OPks.tloc HV6.out.op (by decide)) hn9 (by decide) 1 _) (Nat.le_refl _) (by omega),
                  by simp only [World.size_setCell]; exact tl_set' OSns.tloc o9 hn9 (by decide) 1 _,
                  by simp only [World.size_setCell]; exact OHds.tloc.wide (tl_set' OHds.tloc (tl_own hop ch9 OHds.tloc HV6.out.ol (by decide)) hn9 (by decide) 1 _) (Nat.le_refl _) (by omega),
                  (HV6.out.bl.trans (ch9.below HV6.out.bl.size fun i hi hs => by have := hop.ob hs; omega)).setCell (by dsimp only; omega) _, hg1, by simp only [World.size_setCell]; omega, Nat.le_refl _⟩
              have HSV9 := Lib.hid hsv9
              clear hsv9 hop hn9
              have cl9 := hms.cell
              clear hms o9 ch9 at9 HV6 HO8 HK8
              go_wp2_with (at_builtin; refine stopper ?_)
              refine ⟨?_, trivial⟩
              obtain ⟨w10, hw10⟩ : ∃ w10, w10 = w9.setCell ⟨gm, 1, none⟩ (.slice A9 (s.sn.length + 1) c9) := ⟨_, rfl⟩
              have he10 : w10.heap.size = w9.heap.size := by rw [hw10]; simp only [World.size_setCell]
              have z10 : w6.heap.size ≤ w10.heap.size := by rw [he10]; exact z9
              rw [← hw10] at HSV9 cl9 ⊢
              clear hw10
              have hbw11 : Below w10.heap.size w10 (w10.alloc (.cells #[.int .i64 by_, .int .i64 s0] 59)) := below_alloc _ _
              have q0 : Blk (w10.alloc (.cells #[.int .i64 by_, .int .i64 s0] 59)) (w10.heap.size) 59 #[.int .i64 by_, .int .i64 s0] := by
                have hk := Blk.new w10 59 #[.int .i64 by_, .int .i64 s0]
                exact hk
              have hsw11 : w10.heap.size + 1 ≤ (w10.alloc (.cells #[.int .i64 by_, .int .i64 s0] 59)).heap.size := by simp only [World.size_alloc]; omega
              generalize (w10.alloc (.cells #[.int .i64 by_, .int .i64 s0] 59)) = w11 at *
              have cq0 := q0.cell
              have fq0 := q0.frozen
              rw [he10] at q0
              clear he10
              have hv11 := HSV9.out.below hbw11
              have hop := hv11.ol
              refine app_orow (RFlat.tloc FHd) (by decide) (v := .slice Al s.lg.length cl) rfl (.tmp 81) (.tmp 85) 25 rfl elem_hd (⟨by_, s0⟩ : Hd) rfl hop rfl q0 rfl (by simp [Value.oneCell']) (show w10.heap.size ≤ w11.heap.size from hbw11.size) ⟨rfl, HBY.out, by show In64 s0; unfold In64; omega⟩ (Nat.le_refl _) (by omega) (by omega) ?_
              intro v12 w12 o12 ch12 at12
              obtain ⟨A12, c12, rfl⟩ := o12.form
              rw [List.length_append, List.length_singleton] at o12
              rw [List.length_append, List.length_singleton]
              have hn12 := blk_own hop ch12 hv11.m (by decide)
              have hk12 := blk_own hop ch12 hv11.k1 (by decide)
              have cm12 := hn12.cell
              have fm12 := hn12.frozen
              have ck12 := hk12.cell
              have fk12 := hk12.frozen
              have op12 := tl_own hop ch12 OPks.tloc hv11.op (by decide)
              have os12 := tl_own hop ch12 OSns.tloc hv11.os (by decide)
              have hb12 : Below w.heap.size w w12 := hv11.bl.trans (ch12.below hv11.bl.size fun i hi hs => by have := hop.ob hs; omega)
              have z12 := ch12.size
              have z11 := hbw11.size
              have HF := Lib.hid (And.intro op12 (And.intro os12 (And.intro o12 (And.intro hb12 (And.intro hn12 hk12)))))
              clear op12 os12 o12 hb12 hn12 hk12 hop hv11 HSV9 cl9 hbw11 q0 cq0 fq0 ch12 at12
              go_wp2_with fail
              obtain ⟨op12, os12, o12, hb12, hn12, hk12⟩ := HF.out
              have hm13 := hn12.set_ 2 (.slice A12 (s.lg.length + 1) c12)
              have hk13 := blk_ne hk12 (p := ⟨gm, 2, none⟩) (.slice A12 (s.lg.length + 1) c12) (by dsimp only; omega)
              have k4 := ((hk13.set_ 0 (.slice Apk pk.length cpk)).set_ 1 (.slice A9 (s.sn.length + 1) c9)).set_ 2 (.slice A12 (s.lg.length + 1) c12)
              simp only [List.setIfInBounds_toArray, List.set_cons_zero, List.set_cons_succ] at k4
              have ck4 := k4.cell
              have hke : ∀ {β : Type} {D : Rep β} {T : List TypeId} {y : β} {cs : List Value}, TLoc D T → 27 ∉ T → D w12 w.heap.size w12.heap.size y cs → D ((((w12.setCell ⟨gm, 2, none⟩ (.slice A12 (s.lg.length + 1) c12)).setCell ⟨w.heap.size + 1, 0, none⟩ (.slice Apk pk.length cpk)).setCell ⟨w.heap.size + 1, 1, none⟩ (.slice A9 (s.sn.length + 1) c9)).setCell ⟨w.heap.size + 1, 2, none⟩ (.slice A12 (s.lg.length + 1) c12)) w.heap.size ((((w12.setCell ⟨gm, 2, none⟩ (.slice A12 (s.lg.length + 1) c12)).setCell ⟨w.heap.size + 1, 0, none⟩ (.slice Apk pk.length cpk)).setCell ⟨w.heap.size + 1, 1, none⟩ (.slice A9 (s.sn.length + 1) c9)).setCell ⟨w.heap.size + 1, 2, none⟩ (.slice A12 (s.lg.length + 1) c12)).heap.size y cs := fun {_ _ _ _ _} hD hT hy => by
                simp only [World.size_setCell]
                exact tl_set' hD (tl_set' hD (tl_set' hD (tl_set' hD hy hn12 hT 2 _) hk13 hT 0 _) (hk13.set_ 0 _) hT 1 _) ((hk13.set_ 0 _).set_ 1 _) hT 2 _
              refine bodyPost_ret (v := .tuple #[.agg #[.slice Apk pk.length cpk, .slice A9 (s.sn.length + 1) c9, .slice A12 (s.lg.length + 1) c12], .bool true]) (by simp [results, Try.results26, go_sem, ck4]) rfl ⟨_, _, _, true, savedS key s by_ t, rfl, ?_, .inl ⟨rfl, HY.out, rfl⟩, (((hb12.setCell (by dsimp only; omega) _).setCell (by simp) _).setCell (by simp) _).setCell (by simp) _⟩
              rw [HSD.out]
              exact ⟨hke OPks.tloc (by decide) (OPks.tloc.wide op12 (Nat.le_refl _) (by omega)), hke OSns.tloc (by decide) (OSns.tloc.wide os12 (Nat.le_refl _) (by omega)), hke OHds.tloc (by decide) o12⟩
            · have t6 : decide ((9 : Int) ≤ (s.lg.length : Int)) = true := decide_eq_true (by omega)
              have HN : Hid (¬ roomP key s t) := Lib.hid fun h => c4 (HRM.out.1 h).2.2.2
              clear HRM
              go_wp2_with fail
              have hst7 := h.below HSV.out.bl hhi
              refine (l21Copy_any s _ _ _ wr lo hi hst7.l (by have := HSV.out.bl.size; omega) (by omega)).mono ?_
              rintro e w7 ⟨v1, v2, v3, rfl, oc, b7⟩
              obtain ⟨A1, c1', rfl⟩ := oc.pk.form
              obtain ⟨A2, c2', rfl⟩ := oc.sn.form
              obtain ⟨A3, c3', rfl⟩ := oc.lg.form
              have kr := blk_keep HSV.out.k1 b7
              have ckr := kr.cell
              have fkr := kr.frozen
              have z7 := HSV.out.bl.size
              have hb7 := below_below HSV.out.bl b7
              clear cm ck0 hst7
              go_wp2_with fail
              have k4 := ((kr.set_ 0 (.slice A1 s.pk.length c1')).set_ 1 (.slice A2 s.sn.length c2')).set_ 2 (.slice A3 s.lg.length c3')
              simp only [List.setIfInBounds_toArray, List.set_cons_zero, List.set_cons_succ] at k4
              have ck4 := k4.cell
              refine bodyPost_ret (v := .tuple #[.agg #[.slice A1 s.pk.length c1', .slice A2 s.sn.length c2', .slice A3 s.lg.length c3'], .bool false]) (by simp [results, Try.results26, go_sem, ck4]) rfl ⟨_, _, _, false, s, rfl, ?_, .inr ⟨rfl, HN.out, rfl⟩, ((hb7.setCell (by simp) _).setCell (by simp) _).setCell (by simp) _⟩
              simp only [World.size_setCell]
              have hlt := HSV.out.k1.lt
              exact oc.go (fun b hb1 hb2 => by
                have hne : b ≠ w.heap.size + 1 := by omega
                rw [Below.heap_setCell _ _ _ _ hne, Below.heap_setCell _ _ _ _ hne, Below.heap_setCell _ _ _ _ hne]) (by omega) (Nat.le_refl _)
          · have t5 : decide (20 < s0) = true := decide_eq_true (by omega)
            have HN : Hid (¬ roomP key s t) := Lib.hid fun h => c3 (HRM.out.1 h).2.2.1
            clear HRM
            go_wp2_with fail
            have hst7 := h.below HSV.out.bl hhi
            refine (l21Copy_any s _ _ _ wr lo hi hst7.l (by have := HSV.out.bl.size; omega) (by omega)).mono ?_
            rintro e w7 ⟨v1, v2, v3, rfl, oc, b7⟩
            obtain ⟨A1, c1', rfl⟩ := oc.pk.form
            obtain ⟨A2, c2', rfl⟩ := oc.sn.form
            obtain ⟨A3, c3', rfl⟩ := oc.lg.form
            have kr := blk_keep HSV.out.k1 b7
            have ckr := kr.cell
            have fkr := kr.frozen
            have z7 := HSV.out.bl.size
            have hb7 := below_below HSV.out.bl b7
            clear cm ck0 hst7
            go_wp2_with fail
            have k4 := ((kr.set_ 0 (.slice A1 s.pk.length c1')).set_ 1 (.slice A2 s.sn.length c2')).set_ 2 (.slice A3 s.lg.length c3')
            simp only [List.setIfInBounds_toArray, List.set_cons_zero, List.set_cons_succ] at k4
            have ck4 := k4.cell
            refine bodyPost_ret (v := .tuple #[.agg #[.slice A1 s.pk.length c1', .slice A2 s.sn.length c2', .slice A3 s.lg.length c3'], .bool false]) (by simp [results, Try.results26, go_sem, ck4]) rfl ⟨_, _, _, false, s, rfl, ?_, .inr ⟨rfl, HN.out, rfl⟩, ((hb7.setCell (by simp) _).setCell (by simp) _).setCell (by simp) _⟩
            simp only [World.size_setCell]
            have hlt := HSV.out.k1.lt
            exact oc.go (fun b hb1 hb2 => by
              have hne : b ≠ w.heap.size + 1 := by omega
              rw [Below.heap_setCell _ _ _ _ hne, Below.heap_setCell _ _ _ _ hne, Below.heap_setCell _ _ _ _ hne]) (by omega) (Nat.le_refl _)
        · have t4 : decide (99 < no - 1) = true := decide_eq_true (by omega)
          have HN : Hid (¬ roomP key s t) := Lib.hid fun h => c2 (HRM.out.1 h).2.1
          clear HRM
          go_wp2_with fail
          have hst7 := h.below HSV.out.bl hhi
          refine (l21Copy_any s _ _ _ wr lo hi hst7.l (by have := HSV.out.bl.size; omega) (by omega)).mono ?_
          rintro e w7 ⟨v1, v2, v3, rfl, oc, b7⟩
          obtain ⟨A1, c1', rfl⟩ := oc.pk.form
          obtain ⟨A2, c2', rfl⟩ := oc.sn.form
          obtain ⟨A3, c3', rfl⟩ := oc.lg.form
          have kr := blk_keep HSV.out.k1 b7
          have ckr := kr.cell
          have fkr := kr.frozen
          have z7 := HSV.out.bl.size
          have hb7 := below_below HSV.out.bl b7
          clear cm ck0 hst7
          go_wp2_with fail
          have k4 := ((kr.set_ 0 (.slice A1 s.pk.length c1')).set_ 1 (.slice A2 s.sn.length c2')).set_ 2 (.slice A3 s.lg.length c3')
          simp only [List.setIfInBounds_toArray, List.set_cons_zero, List.set_cons_succ] at k4
          have ck4 := k4.cell
          refine bodyPost_ret (v := .tuple #[.agg #[.slice A1 s.pk.length c1', .slice A2 s.sn.length c2', .slice A3 s.lg.length c3'], .bool false]) (by simp [results, Try.results26, go_sem, ck4]) rfl ⟨_, _, _, false, s, rfl, ?_, .inr ⟨rfl, HN.out, rfl⟩, ((hb7.setCell (by simp) _).setCell (by simp) _).setCell (by simp) _⟩
          simp only [World.size_setCell]
          have hlt := HSV.out.k1.lt
          exact oc.go (fun b hb1 hb2 => by
            have hne : b ≠ w.heap.size + 1 := by omega
            rw [Below.heap_setCell _ _ _ _ hne, Below.heap_setCell _ _ _ _ hne, Below.heap_setCell _ _ _ _ hne]) (by omega) (Nat.le_refl _)
      · have t3 : decide ((20 : Int) < (pk.length : Int)) = true := decide_eq_true (by omega)
        have HN : Hid (¬ roomP key s t) := Lib.hid fun h => c1 (HRM.out.1 h).1
        clear HRM
        go_wp2_with fail
        have hst7 := h.below HSV.out.bl hhi
        refine (l21Copy_any s _ _ _ wr lo hi hst7.l (by have := HSV.out.bl.size; omega) (by omega)).mono ?_
        rintro e w7 ⟨v1, v2, v3, rfl, oc, b7⟩
        obtain ⟨A1, c1', rfl⟩ := oc.pk.form
        obtain ⟨A2, c2', rfl⟩ := oc.sn.form
        obtain ⟨A3, c3', rfl⟩ := oc.lg.form
        have kr := blk_keep HSV.out.k1 b7
        have ckr := kr.cell
        have fkr := kr.frozen
        have z7 := HSV.out.bl.size
        have hb7 := below_below HSV.out.bl b7
        clear cm ck0 hst7
        go_wp2_with fail
        have k4 := ((kr.set_ 0 (.slice A1 s.pk.length c1')).set_ 1 (.slice A2 s.sn.length c2')).set_ 2 (.slice A3 s.lg.length c3')
        simp only [List.setIfInBounds_toArray, List.set_cons_zero, List.set_cons_succ] at k4
        have ck4 := k4.cell
        refine bodyPost_ret (v := .tuple #[.agg #[.slice A1 s.pk.length c1', .slice A2 s.sn.length c2', .slice A3 s.lg.length c3'], .bool false]) (by simp [results, Try.results26, go_sem, ck4]) rfl ⟨_, _, _, false, s, rfl, ?_, .inr ⟨rfl, HN.out, rfl⟩, ((hb7.setCell (by simp) _).setCell (by simp) _).setCell (by simp) _⟩
        simp only [World.size_setCell]
        have hlt := HSV.out.k1.lt
        exact oc.go (fun b hb1 hb2 => by
          have hne : b ≠ w.heap.size + 1 := by omega
          rw [Below.heap_setCell _ _ _ _ hne, Below.heap_setCell _ _ _ _ hne, Below.heap_setCell _ _ _ _ hne]) (by omega) (Nat.le_refl _)
end Go.Proofs.Ytpdkgpbfmpekgaa




/- Stores as saves make them: plain. -/
namespace Go.Proofs.Ytpdkgpbfmpekgaa
open Go.RowKit

/-- A store as saves of trees make it. -/
inductive Saved : Sto → Prop
  | nil : Saved ⟨[], [], []⟩
  | save {s : Sto} {b : Int} {t : List Nd} : Saved s → b = 1 ∨ b = 2 → Fine t → roomP 7 s t → Saved (savedS 7 s b t)
structure WfS (s : Sto) : Prop where
  pl : s.pk.length ≤ 20
  pn : ∀ p ∈ s.pk, (1 ≤ p.no ∧ p.no ≤ 99) ∧ p.its.length ≤ 4 ∧ ∀ x ∈ p.its, x.b.size ≤ 8
  sl : s.sn.length = s.lg.length
  sn : ∀ x ∈ s.sn, (1 ≤ x.no ∧ x.no ≤ 20) ∧ x.all.length ≤ 6 ∧ ∀ y ∈ x.all, y.p.size ≤ 3 ∧ y.ns.length ≤ 40
  ll : s.lg.length ≤ 9
  lg : ∀ h ∈ s.lg, (1 ≤ h.b ∧ h.b ≤ 2) ∧ 1 ≤ h.s ∧ h.s ≤ 20
theorem packsL_mem (key : Int) : ∀ (n : Nat) (no : Int) (l : List ByteArray), l.length ≤ n → ∀ p ∈ packsL key no l, no ≤ p.no ∧ p.no < no + (packsL key no l).length ∧ ∃ c : List ByteArray, p.its = makeI key c ∧ 1 ≤ c.length ∧ c.length ≤ 4 ∧ ∀ x ∈ c, x ∈ l
  | 0, no, l, h, p, hp => by rw [List.length_eq_zero_iff.1 (by omega : l.length = 0), packsL_nil] at hp; cases hp
  | n + 1, no, l, h, p, hp => by
    rcases Nat.eq_zero_or_pos l.length with hz | hz
    · rw [List.length_eq_zero_iff.1 hz, packsL_nil] at hp; cases hp
    · rw [packsL_step key no hz] at hp ⊢
      rw [List.length_cons]
      rcases List.mem_cons.1 hp with rfl | hp
      · exact ⟨Int.le_refl _, by show no < _; omega, l.take 4, rfl, by rw [List.length_take]; omega, by rw [List.length_take]; omega, fun x hx => List.mem_of_mem_take hx⟩
      · obtain ⟨h1, h2, c, h3, h4, h5, h6⟩ := packsL_mem key n (no + 1) (l.drop 4) (by rw [List.length_drop]; omega) p hp
        exact ⟨by omega, by omega, c, h3, h4, h5, fun x hx => List.mem_of_mem_drop (h6 x hx)⟩
theorem nextPk_pos {l : List Pk} (h : ∀ p ∈ l, 1 ≤ p.no) : 1 ≤ nextPk l := by
  unfold nextPk
  cases hl : l.getLast? with
  | none => show (1 : Int) ≤ 0 + 1; omega
  | some p => have := h p (List.mem_of_getLast? hl); show (1 : Int) ≤ p.no + 1; omega
theorem foldMax_pos : ∀ (l : List Hd) (a : Int), 1 ≤ a → 1 ≤ l.foldl (fun a h => max a (h.s + 1)) a
  | [], a, ha => ha
  | x :: l, a, ha => foldMax_pos l (max a (x.s + 1)) (by omega)
theorem nextSn_pos (s : Sto) : 1 ≤ nextSn s := by
  have hm : 1 ≤ maxLg s.lg := foldMax_pos s.lg 1 (by omega)
  unfold nextSn
  cases s.sn.getLast? with
  | none => exact hm
  | some x => show 1 ≤ max (maxLg s.lg) (x.no + 1); omega
theorem itemOf_size {key : Int} {s : ByteArray} (h : pieceP (bs s)) : (itemOf key s).b.size ≤ 8 := by
  show (mkStr (padL (bs s))).size ≤ 8
  rw [← bs_len, bs_pad, padL_len h]
  exact classL_le.1
theorem fine_text {t : List Nd} (h : Fine t) : ∀ x ∈ t, textB x.b = true := fun x hx => (h.1 x hx).2
theorem WfS.saved {s : Sto} {b : Int} {t : List Nd} (h : WfS s) (hb : b = 1 ∨ b = 2) (ht : Fine t) (hr : roomP 7 s t) : WfS (savedS 7 s b t) := by
  obtain ⟨r1, r2, r3, r4⟩ := hr
  have hs0 := nextSn_pos s
  refine ⟨r1, fun p hp => ?_, ?_, fun x hx => ?_, ?_, fun y hy => ?_⟩
  · rcases List.mem_append.1 hp with hp | hp
    · exact h.pn p hp
    · obtain ⟨h1, h2, c, h3, h4, h5, h6⟩ := packsL_mem 7 _ _ _ (Nat.le_refl _) p hp
      have h0 := nextPk_pos (l := s.pk) fun p hp => (h.pn p hp).1.1
      refine ⟨⟨by omega, ?_⟩, by rw [h3, makeI_len]; exact h5, fun x hx => ?_⟩
      · have e : (newPks 7 s t).length = (packsL 7 (nextPk s.pk) (newL 7 (ixOf s.pk) t)).length := rfl
        omega
      · rw [h3] at hx
        obtain ⟨q, hq, rfl⟩ := makeI_mem.1 hx
        exact itemOf_size (newL_piece (fine_text ht) q (h6 q hq))
  · show (s.sn ++ [_]).length = (s.lg ++ [_]).length
    rw [List.length_append, List.length_append, h.sl]; rfl
  · rcases List.mem_append.1 hx with hx | hx
    · exact h.sn x hx
    · rw [List.mem_singleton.1 hx]
      refine ⟨⟨hs0, r3⟩, by show (t.map (listedL 7)).length ≤ 6; rw [List.length_map]; exact ht.2, fun y hy => ?_⟩
      obtain ⟨f, hf, rfl⟩ := List.mem_map.1 hy
      have h1 := ht.1 f hf
      have h2 := pathB_size h1.1
      have h3 := cutS_len f.b
      have h4 := (textB_all h1.2).1
      exact ⟨by show f.p.size ≤ 3; omega, by show ((cutS f.b).map _).length ≤ 40; rw [List.length_map]; omega⟩
  · show (s.lg ++ [_]).length ≤ 9
    rw [List.length_append, List.length_singleton]; omega
  · rcases List.mem_append.1 hy with hy | hy
    · exact h.lg y hy
    · rw [List.mem_singleton.1 hy]
      exact ⟨by show 1 ≤ b ∧ b ≤ 2; omega, hs0, r3⟩
theorem Saved.wf {s : Sto} (h : Saved s) : WfS s := by
  induction h with
  | nil => exact ⟨Nat.zero_le _, fun p hp => (by cases hp), rfl, fun p hp => (by cases hp), Nat.zero_le _, fun p hp => (by cases hp)⟩
  | save _ hb ht hr ih => exact ih.saved hb ht hr
theorem bulkS_le {α : Type} {f : α → Nat} {b : Nat} : ∀ {l : List α}, (∀ x ∈ l, f x ≤ b) → bulkS f l ≤ l.length * (b + 1)
  | [], _ => Nat.le_of_eq (Nat.zero_mul _).symm
  | x :: l, h => by
    have h1 := h x (by simp)
    have h2 := bulkS_le (f := f) (b := b) (l := l) fun y hy => h y (by simp [hy])
    have e : bulkS f (x :: l) = bulkS f l + 1 + f x := by unfold bulkS; simp only [List.length_cons, List.map_cons, List.sum_cons]; omega
    rw [e, List.length_cons, Nat.succ_mul]; omega
theorem WfS.small {s : Sto} (h : WfS s) : smallS 1000000 s := ⟨fun p hp => by have := (h.pn p hp).1; omega, fun x hx => by have := (h.sn x hx).1; omega, fun y hy => by have := (h.lg y hy).2; omega⟩
theorem spots_le : ∀ l : List Pk, (∀ p ∈ l, p.its.length ≤ 4) → (spots l).length ≤ l.length * 4
  | [], _ => Nat.zero_le _
  | p :: l, hl => by
    have h1 := spots_le l fun q hq => hl q (by simp [hq])
    have h2 := hl p (by simp)
    show (spotsP p ++ spots l).length ≤ _
    have h3 : (spotsP p).length = p.its.length := List.length_map _
    rw [List.length_append, List.length_cons, Nat.succ_mul]; omega
theorem WfS.spots {s : Sto} (h : WfS s) : (spots s.pk).length ≤ 10000 := by
  have h1 := spots_le s.pk fun p hp => (h.pn p hp).2.1
  have := h.pl
  omega
theorem WfS.bulk {s : Sto} (h : WfS s) : bSto s ≤ 10000 := by
  have h1 : bulkS bPk s.pk ≤ s.pk.length * (36 + 1) := bulkS_le fun p hp => by
    have h2 : bulkS bIt p.its ≤ p.its.length * (8 + 1) := bulkS_le fun x hx => (h.pn p hp).2.2 x hx
    have := (h.pn p hp).2.1
    show bulkS bIt p.its ≤ 36
    omega
  have h3 : bulkS bSn s.sn ≤ s.sn.length * (264 + 1) := bulkS_le fun x hx => by
    have h2 : bulkS bLs x.all ≤ x.all.length * (43 + 1) := bulkS_le fun y hy => by
      have := (h.sn x hx).2.2 y hy
      show y.p.size + y.ns.length ≤ 43
      omega
    have := (h.sn x hx).2.1
    show bulkS bLs x.all ≤ 264
    omega
  have := h.pl
  have := h.sl
  have := h.ll
  unfold bSto
  omega
end Go.Proofs.Ytpdkgpbfmpekgaa

