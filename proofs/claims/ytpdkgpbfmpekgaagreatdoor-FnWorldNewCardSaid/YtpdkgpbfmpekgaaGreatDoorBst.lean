


/- The program's search tree of spots: put and list, by induction on the tree. -/
import Derived.Test.YtpdkgpbfmpekgaaGreatDoorIxL
import Derived.Test.YtpdkgpbfmpekgaaGreatDoorEf
import Derived.Test.YtpdkgpbfmpekgaaGreatDoorEm
namespace Go.Proofs.YtpdkgpbfmpekgaaGreatDoor
open Go.RowKit

def FSp : Flat Sp := ⟨2, fun s => [.int .i64 s.n, .int .i64 s.p], fun x => In64 x.n ∧ In64 x.p, fun _ => rfl, fun x u hu => by simp at hu; rcases hu with rfl | rfl <;> rfl, by decide⟩
theorem elem_sp : Elem Tryz.prog 89 146 2 16 := Elem.mk' Tryz.underlying89 (z := .agg #[.int .i64 0, .int .i64 0]) (by kernel_rfl) rfl (by decide) (by decide)

def Tr.ptr : Tr → Value
  | .nil => .pointer none
  | .node b _ _ _ => .pointer (some ⟨b, 0, none⟩)
/-- A tree lies in a world. -/
def Tin (w : World) : Tr → Prop
  | .nil => True
  | .node b s l r => Blk w b 204 #[.int .i64 s.n, .int .i64 s.p, l.ptr, r.ptr] ∧ Tin w l ∧ Tin w r
theorem Tin.lt {w : World} : ∀ {t : Tr}, Tin w t → ∀ b ∈ t.blocks, b < w.heap.size
  | .nil, _, _, h => by cases h
  | .node c s l r, ⟨hk, hl, hr⟩, b, h => by
    simp only [Tr.blocks, List.mem_cons, List.mem_append] at h
    rcases h with rfl | h | h
    · exact hk.lt
    · exact hl.lt b h
    · exact hr.lt b h
theorem Tin.chg {w w' : World} {S : Nat → Prop} (hc : Chg S w w') : ∀ {t : Tr}, Tin w t → (∀ b ∈ t.blocks, ¬ S b) → Tin w' t
  | .nil, _, _ => trivial
  | .node c s l r, ⟨hk, hl, hr⟩, h => by
    refine ⟨blk_chg hk hc (h c (by simp [Tr.blocks])), Tin.chg hc hl fun b hb => h b (by simp [Tr.blocks, hb]), Tin.chg hc hr fun b hb => h b (by simp [Tr.blocks, hb])⟩
theorem Tin.below {w w' : World} (hb : Below w.heap.size w w') {t : Tr} (h : Tin w t) : Tin w' t := Tin.chg (Chg.of_below (S := fun _ => False) hb) h fun _ _ h => h
theorem Tr.ptr_form (t : Tr) : ∃ p, t.ptr = .pointer p := by cases t <;> exact ⟨_, rfl⟩
set_option maxHeartbeats 4000000 in
/-- put. -/
theorem put_any (s : Sp) (h64 : In64 s.n ∧ In64 s.p) : ∀ (t : Tr) (w : World), Tin w t → t.blocks.Nodup → (∀ y ∈ t.list, In64 y.n) →
    Calls Tryz.prog 155 #[t.ptr, .agg #[.int .i64 s.n, .int .i64 s.p]] w fun e w' => ∃ nb, e = .returned (t.put nb s).ptr ∧ w.heap.size ≤ nb ∧ Tin w' (t.put nb s) ∧ (t.put nb s).blocks.Nodup ∧ Chg (fun b => b ∈ t.blocks) w w' := by
  intro t
  induction t with
  | nil =>
    intro w _ _ _
    show Calls _ _ #[.pointer none, _] w _
    go_enter Tryz.func155, Tryz.ntmps155
    go_wp2_with fail
    go_ret
    have hb := below_alloc (w.alloc (.cells #[.int .i64 s.n, .int .i64 s.p] 146)) (.cells #[.int .i64 s.n, .int .i64 s.p, .pointer none, .pointer none] 204)
    have hk := Blk.new (w.alloc (.cells #[.int .i64 s.n, .int .i64 s.p] 146)) 204 #[.int .i64 s.n, .int .i64 s.p, .pointer none, .pointer none]
    simp only [World.size_alloc] at hk
    exact ⟨w.heap.size + 1, rfl, by omega, ⟨hk, trivial, trivial⟩, by simp [Tr.put, Tr.blocks], ((Chg.refl _ _).alloc _).alloc _⟩
  | node b x l r ihl ihr =>
    intro w ht hnd h64s
    show Calls _ _ #[.pointer (some ⟨b, 0, none⟩), _] w _
    obtain ⟨hk, hl, hr⟩ := ht
    have ck := hk.cell
    have fk := hk.frozen
    have hbl := hk.lt
    have hltl := hl.lt
    have hltr := hr.lt
    have hsw := Nat.le_refl w.heap.size
    go_enter Tryz.func155, Tryz.ntmps155
    go_wp2_with fail
    have hbw0 : Below w.heap.size w (w.alloc (.cells #[.int .i64 s.n, .int .i64 s.p] 146)) := below_alloc _ _
    have k0 : Blk (w.alloc (.cells #[.int .i64 s.n, .int .i64 s.p] 146)) (w.heap.size) 146 #[.int .i64 s.n, .int .i64 s.p] := by
      have hk := Blk.new w 146 #[.int .i64 s.n, .int .i64 s.p]
      exact hk
    have hsw0 : w.heap.size + 1 ≤ (w.alloc (.cells #[.int .i64 s.n, .int .i64 s.p] 146)).heap.size := by simp only [World.size_alloc]; omega
    generalize (w.alloc (.cells #[.int .i64 s.n, .int .i64 s.p] 146)) = w0 at *
    have ck0 := k0.cell
    have fk0 := k0.frozen
    replace hk := blk_keep hk hbw0
    replace hl := hl.below hbw0
    replace hr := hr.below hbw0
    have ckn := hk.cell
    have fkn := hk.frozen
    have hndl : l.blocks.Nodup := (List.nodup_append.1 (List.nodup_cons.1 hnd).2).1
    have hndr : r.blocks.Nodup := (List.nodup_append.1 (List.nodup_cons.1 hnd).2).2.1
    have hbl' : b ∉ l.blocks := fun h => (List.nodup_cons.1 hnd).1 (List.mem_append_left _ h)
    have hbr' : b ∉ r.blocks := fun h => (List.nodup_cons.1 hnd).1 (List.mem_append_right _ h)
    have hlr : ∀ c ∈ l.blocks, c ∉ r.blocks := fun c hc hr => (List.nodup_append.1 (List.nodup_cons.1 hnd).2).2.2 c hc c hr rfl
    have hll : ∀ y ∈ l.list, In64 y.n := fun y hy => h64s y (by simp [Tr.list, hy])
    have hrl : ∀ y ∈ r.list, In64 y.n := fun y hy => h64s y (by simp [Tr.list, hy])
    rcases Int.lt_trichotomy s.n x.n with hlt | heq | hlt
    · have t1 : decide (s.n < x.n) = true := decide_eq_true hlt
      go_quiet (fail)
      go_wp2_with fail
      have past0 : ∀ y : PastE (w0.drewN nq) 6 146 (fun c => c ∈ l.blocks) [], _ := paste_cell (w := (w0.drewN nq)) (show (w0.drewN nq).cell? ⟨b, 2, none⟩ = some l.ptr from ckn 2) (by dsimp only; first | exact hbl' | exact hbr')
      refine region_efT 6 146 (fun c => c ∈ l.blocks) [] 7 [0, 1, 2, 3, 4] [5, 6] (by kernel_rfl) (by kernel_rfl) (by kernel_rfl) ?_
      simp only [pick, List.map, List.getD_cons_zero, List.getD_cons_succ]
      repeat (go_big_quiet_step (fail))
      refine wpQuiet_nil ?_
      clear past0
      apply Exists.intro
      apply ef_fix (.agg #[.int .i64 s.n, .int .i64 s.p])
      · intro y _ _ Qx hQ'
        have hQ := Lib.hid hQ'; clear hQ'
        have ca := paste_cell (w := (w0.drewN nq)) (show (w0.drewN nq).cell? ⟨w.heap.size, 0, none⟩ = some (.int .i64 s.n) from ck0 0) (fun h => absurd (hltl _ h) (Nat.lt_irrefl _)) y
        have cb := paste_cell (w := (w0.drewN nq)) (show (w0.drewN nq).cell? ⟨w.heap.size, 1, none⟩ = some (.int .i64 s.p) from ck0 1) (fun h => absurd (hltl _ h) (Nat.lt_irrefl _)) y
        go_wp2_with fail
        exact hQ.out _ (Below.refl _ _)
      simp only [Act.put, List.setIfInBounds_toArray, List.set_cons_zero, List.set_cons_succ]
      apply ef_eff (fun v y => y.done = true ∧ ∃ nb, v = (l.put nb s).ptr ∧ w0.heap.size ≤ nb ∧ Tin y.to (l.put nb s) ∧ (l.put nb s).blocks.Nodup)
      · rfl
      · rfl
      · exact fun j hj => (by cases hj)
      · exact fun v x y ⟨hd, nb, e, hn, ht, hD⟩ hl => ⟨(hl.from_ hd).1, nb, e, hn, ht.below (hl.from_ hd).2, hD⟩
      · intro y _ hdn Qx hQ'
        have hQ := Lib.hid hQ'; clear hQ'
        have hy := y.till hdn
        go_wp2_with fail
        refine (ihl y.to (Tin.below hy (Tin.below (below_drewN (Below.refl w0.heap.size w0) nq) (by first | exact hl | exact hr))) hndl hll).mono ?_
        rintro e w2 ⟨nb, rfl, hn, ht, hD, hc⟩
        go_wp2_with fail
        exact hQ.out _ _ (hc.mono fun c _ h => .inl h) ⟨rfl, nb, rfl, Nat.le_trans hy.size hn, ht, hD⟩
      intro u6
      simp only [Act.put, List.setIfInBounds_toArray, List.set_cons_zero, List.set_cons_succ]
      refine ef_end fun y hF => ?_
      simp only [allF] at hF
      obtain ⟨⟨hdn, nb, rfl, hn, hnT, hnD⟩, -⟩ := hF
      have hcx : Chg (fun c => c ∈ l.blocks) w0 y.to := (Chg.of_below (S := fun c => c ∈ l.blocks) (below_drewN (Below.refl w0.heap.size w0) nq)).trans (y.ok.mono fun _ _ h => h.2) fun _ _ h => h
      revert hcx hnT
      generalize y.to = w5
      clear y hdn
      intro hnT hcx
      have kn := blk_chg hk hcx (by first | exact hbl' | exact hbr')
      have ckn5 := kn.cell
      have fkn5 := kn.frozen
      obtain ⟨pp, hpp⟩ := (l.put nb s).ptr_form
      simp only [List.drop]
      rw [hpp]
      go_wp2_with fail
      go_ret
      rw [← hpp]
      have hset : Chg (fun c => c = b) w5 (w5.setCell ⟨b, 2, none⟩ (l.put nb s).ptr) := (Chg.refl (fun c => c = b) w5).setCell (p := ⟨b, 2, none⟩) (.inl rfl) _
      have hput : (Tr.node b x l r).put nb s = .node b x (l.put nb s) r := by
        show (if s.n < x.n then _ else _) = _
        rw [if_pos hlt]
      have hnb : nb ∉ r.blocks := fun h => (by have := hltr nb h; omega)
      have hsub : ∀ c ∈ (l.put nb s).blocks, c ∉ r.blocks ∧ c ≠ b := fun c hc => by
        rcases Tr.put_blocks hc with rfl | hc
        · exact ⟨hnb, by omega⟩
        · exact ⟨hlr c hc, fun e => hbl' (e ▸ hc)⟩
      refine ⟨nb, ?_⟩
      rw [hput]
      refine ⟨rfl, by omega, ⟨(blk_chg hk hcx hbl').set_ 2 _, Tin.chg hset hnT fun c hc e => (hsub c hc).2 e, Tin.chg hset (Tin.chg hcx hr fun c hc h => hlr c h hc) fun c hc e => hbr' (e ▸ hc)⟩, ?_, ?_⟩
      · refine List.nodup_cons.2 ⟨fun h => ?_, List.nodup_append.2 ⟨hnD, hndr, fun c hc d hd e => (hsub c hc).1 (e ▸ hd)⟩⟩
        rcases List.mem_append.1 h with h | h
        · exact (hsub b h).2 rfl
        · exact hbr' h
      · exact ((Chg.of_below (S := fun c => c ∈ (Tr.node b x l r).blocks) hbw0).trans (hcx.mono fun c _ hc => by simp [Tr.blocks, hc]) fun _ _ h => h).trans (hset.mono fun c _ e => by simp [Tr.blocks, e]) fun _ _ h => h
    · have t1 : decide (s.n < x.n) = false := decide_eq_false (by omega)
      have t2 : decide (x.n < s.n) = false := decide_eq_false (by omega)
      have HEQ := Lib.hid heq; clear heq
      go_quiet (fail)
      revert nq
      intro nq1
      go_wp2_with fail
      go_quiet (fail)
      go_wp2_with fail
      go_ret
      have hput : (Tr.node b x l r).put w0.heap.size s = .node b s l r := by
        show (if s.n < x.n then _ else if x.n < s.n then _ else _) = _
        have := HEQ.out
        rw [if_neg (by omega), if_neg (by omega)]
      refine ⟨w0.heap.size, ?_⟩
      rw [hput]
      have hc : Chg (fun c => c = b) w0 (((w0.drewN (nq1 + nq)).setCell ⟨b, 0, none⟩ (.int .i64 s.n)).setCell ⟨b, 1, none⟩ (.int .i64 s.p)) :=
        (((Chg.refl (fun c => c = b) w0).drewN (nq1 + nq)).setCell (p := ⟨b, 0, none⟩) (.inl rfl) _).setCell (p := ⟨b, 1, none⟩) (.inl rfl) _
      have hk1 : Blk (w0.drewN (nq1 + nq)) b 204 #[.int .i64 x.n, .int .i64 x.p, l.ptr, r.ptr] := hk
      refine ⟨rfl, by omega, ⟨(hk1.set_ 0 _).set_ 1 _, Tin.chg hc hl fun c h e => hbl' (e ▸ h), Tin.chg hc hr fun c h e => hbr' (e ▸ h)⟩, hnd, ?_⟩
      exact (Chg.of_below (S := fun c => c ∈ (Tr.node b x l r).blocks) hbw0).trans (hc.mono fun c _ e => by simp [Tr.blocks, e]) fun _ _ h => h
    · have t1 : decide (s.n < x.n) = false := decide_eq_false (by omega)
      have t2 : decide (x.n < s.n) = true := decide_eq_true hlt
      go_quiet (fail)
      revert nq
      intro nq1
      go_wp2_with fail
      go_quiet (fail)
      go_wp2_with fail
      have past0 : ∀ y : PastE ((w0.drewN nq1).drewN nq) 6 146 (fun c => c ∈ r.blocks) [], _ := paste_cell (w := ((w0.drewN nq1).drewN nq)) (show ((w0.drewN nq1).drewN nq).cell? ⟨b, 3, none⟩ = some r.ptr from ckn 3) (by dsimp only; first | exact hbl' | exact hbr')
      refine region_efT 6 146 (fun c => c ∈ r.blocks) [] 7 [0, 1, 2, 3, 4] [5, 6] (by kernel_rfl) (by kernel_rfl) (by kernel_rfl) ?_
      simp only [pick, List.map, List.getD_cons_zero, List.getD_cons_succ]
      repeat (go_big_quiet_step (fail))
      refine wpQuiet_nil ?_
      clear past0
      apply Exists.intro
      apply ef_fix (.agg #[.int .i64 s.n, .int .i64 s.p])
      · intro y _ _ Qx hQ'
        have hQ := Lib.hid hQ'; clear hQ'
        have ca := paste_cell (w := ((w0.drewN nq1).drewN nq)) (show ((w0.drewN nq1).drewN nq).cell? ⟨w.heap.size, 0, none⟩ = some (.int .i64 s.n) from ck0 0) (fun h => absurd (hltr _ h) (Nat.lt_irrefl _)) y
        have cb := paste_cell (w := ((w0.drewN nq1).drewN nq)) (show ((w0.drewN nq1).drewN nq).cell? ⟨w.heap.size, 1, none⟩ = some (.int .i64 s.p) from ck0 1) (fun h => absurd (hltr _ h) (Nat.lt_irrefl _)) y
        go_wp2_with fail
        exact hQ.out _ (Below.refl _ _)
      simp only [Act.put, List.setIfInBounds_toArray, List.set_cons_zero, List.set_cons_succ]
      apply ef_eff (fun v y => y.done = true ∧ ∃ nb, v = (r.put nb s).ptr ∧ w0.heap.size ≤ nb ∧ Tin y.to (r.put nb s) ∧ (r.put nb s).blocks.Nodup)
      · rfl
      · rfl
      · exact fun j hj => (by cases hj)
      · exact fun v x y ⟨hd, nb, e, hn, ht, hD⟩ hl => ⟨(hl.from_ hd).1, nb, e, hn, ht.below (hl.from_ hd).2, hD⟩
      · intro y _ hdn Qx hQ'
        have hQ := Lib.hid hQ'; clear hQ'
        have hy := y.till hdn
        go_wp2_with fail
        refine (ihr y.to (Tin.below hy (Tin.below (below_drewN (below_drewN (Below.refl w0.heap.size w0) nq1) nq) (by first | exact hl | exact hr))) hndr hrl).mono ?_
        rintro e w2 ⟨nb, rfl, hn, ht, hD, hc⟩
        go_wp2_with fail
        exact hQ.out _ _ (hc.mono fun c _ h => .inl h) ⟨rfl, nb, rfl, Nat.le_trans hy.size hn, ht, hD⟩
      intro u6
      simp only [Act.put, List.setIfInBounds_toArray, List.set_cons_zero, List.set_cons_succ]
      refine ef_end fun y hF => ?_
      simp only [allF] at hF
      obtain ⟨⟨hdn, nb, rfl, hn, hnT, hnD⟩, -⟩ := hF
      have hcx : Chg (fun c => c ∈ r.blocks) w0 y.to := (Chg.of_below (S := fun c => c ∈ r.blocks) (below_drewN (below_drewN (Below.refl w0.heap.size w0) nq1) nq)).trans (y.ok.mono fun _ _ h => h.2) fun _ _ h => h
      revert hcx hnT
      generalize y.to = w5
      clear y hdn
      intro hnT hcx
      have kn := blk_chg hk hcx (by first | exact hbl' | exact hbr')
      have ckn5 := kn.cell
      have fkn5 := kn.frozen
      obtain ⟨pp, hpp⟩ := (r.put nb s).ptr_form
      simp only [List.drop]
      rw [hpp]
      go_wp2_with fail
      go_ret
      rw [← hpp]
      have hset : Chg (fun c => c = b) w5 (w5.setCell ⟨b, 3, none⟩ (r.put nb s).ptr) := (Chg.refl (fun c => c = b) w5).setCell (p := ⟨b, 3, none⟩) (.inl rfl) _
      have hput : (Tr.node b x l r).put nb s = .node b x l (r.put nb s) := by
        show (if s.n < x.n then _ else if x.n < s.n then _ else _) = _
        rw [if_neg (by omega), if_pos hlt]
      have hnb : nb ∉ l.blocks := fun h => (by have := hltl nb h; omega)
      have hsub : ∀ c ∈ (r.put nb s).blocks, c ∉ l.blocks ∧ c ≠ b := fun c hc => by
        rcases Tr.put_blocks hc with rfl | hc
        · exact ⟨hnb, by omega⟩
        · exact ⟨fun hl => hlr c hl hc, fun e => hbr' (e ▸ hc)⟩
      refine ⟨nb, ?_⟩
      rw [hput]
      refine ⟨rfl, by omega, ⟨(blk_chg hk hcx hbr').set_ 3 _, Tin.chg hset (Tin.chg hcx hl fun c hc h => hlr c hc h) fun c hc e => hbl' (e ▸ hc), Tin.chg hset hnT fun c hc e => (hsub c hc).2 e⟩, ?_, ?_⟩
      · refine List.nodup_cons.2 ⟨fun h => ?_, List.nodup_append.2 ⟨hndl, hnD, fun c hc d hd e => (hsub d hd).1 (e ▸ hc)⟩⟩
        rcases List.mem_append.1 h with h | h
        · exact hbl' h
        · exact (hsub b h).2 rfl
      · exact ((Chg.of_below (S := fun c => c ∈ (Tr.node b x l r).blocks) hbw0).trans (hcx.mono fun c _ hc => by simp [Tr.blocks, hc]) fun _ _ h => h).trans (hset.mono fun c _ e => by simp [Tr.blocks, e]) fun _ _ h => h
theorem rg_blk_ne' {e t : TypeId} {w : World} {α : Type} {F : Flat α} {base : Nat} {v : Value} {xs : List α} (ho : OwnF F e w base v xs) {g : Nat} {cs : Array Value} (hk : Blk w g t cs) (he : e ≠ t) : ∀ b, v.ownBlock = some b → b ≠ g := by
  rintro b hb rfl
  rcases ho.2 with ⟨rfl, _⟩ | ⟨g', cap, cur, rfl, _, hg, _⟩
  · cases hb
  · cases hb
    unfold Blk at hk
    rw [hk] at hg
    simp at hg
    exact he hg.2.symm
theorem tin_own {w : World} {base : Nat} {v : Value} {xs : List Sp} (ho : OwnF FSp 146 w base v xs) : ∀ {t : Tr}, Tin w t → ∀ b ∈ t.blocks, ¬ v.ownBlock = some b
  | .nil, _, _, h => by cases h
  | .node c s l r, ⟨hk, hl, hr⟩, b, h => by
    simp only [Tr.blocks, List.mem_cons, List.mem_append] at h
    rcases h with rfl | h | h
    · exact fun e => rg_blk_ne' ho hk (by decide) _ e rfl
    · exact tin_own ho hl b h
    · exact tin_own ho hr b h
/-- What list gives: the tree's spots behind those that were there. -/
def ListPost (w : World) (base : Nat) (v : Value) (ys : List Sp) (e : Ending) (w' : World) : Prop :=
  ∃ v', e = .returned v' ∧ OwnF FSp 146 w' base v' ys ∧ Chg (fun b => v.ownBlock = some b) w w' ∧ ∀ b, v'.ownBlock = some b → v.ownBlock = some b ∨ w.heap.size ≤ b
set_option maxHeartbeats 4000000 in
theorem list_any : ∀ (t : Tr) (w : World) (base : Nat) (v : Value) (xs : List Sp), base ≤ w.heap.size → OwnF FSp 146 w base v xs → Tin w t → xs.length + t.size ≤ 1000000000 →
    Calls Tryz.prog 102 #[t.ptr, v] w (ListPost w base v (xs ++ t.list)) := by
  intro t
  induction t with
  | nil =>
    intro w base v xs hb ho _ _
    show Calls _ _ #[.pointer none, _] w _
    obtain ⟨A, c, rfl⟩ := ho.form
    go_enter Tryz.func102, Tryz.ntmps102
    go_wp2_with fail
    go_ret
    exact ⟨_, rfl, by simpa [Tr.list] using ho, Chg.refl _ _, fun b h => .inl h⟩
  | node b s l r ihl ihr =>
    intro w base v xs hb ho ht hn
    show Calls _ _ #[.pointer (some ⟨b, 0, none⟩), _] w _
    obtain ⟨hk, hl, hr⟩ := ht
    have hbS := rg_blk_ne' ho hk (by decide)
    have hlS := tin_own ho hl
    have hrS := tin_own ho hr
    have hown : ∀ c, v.ownBlock = some c → c < w.heap.size := fun c h => (ho.at_ h).2
    simp only [Tr.size] at hn
    have cb0 : w.cell? ⟨b, 0, none⟩ = some (.int .i64 s.n) := hk.cell 0
    have cb1 : w.cell? ⟨b, 1, none⟩ = some (.int .i64 s.p) := hk.cell 1
    have cb2 : w.cell? ⟨b, 2, none⟩ = some l.ptr := hk.cell 2
    have cb3 : w.cell? ⟨b, 3, none⟩ = some r.ptr := hk.cell 3
    go_enter Tryz.func102, Tryz.ntmps102
    go_wp2_with fail
    have past0 : ∀ y : PastM w [9, 15, 16] (fun k => decide (k ≠ 0)) 146 (fun c => v.ownBlock = some c), _ := pastm_cell cb2 (fun h => hbS _ h rfl)
    have past1 : ∀ y : PastM w [9, 15, 16] (fun k => decide (k ≠ 0)) 146 (fun c => v.ownBlock = some c), _ := pastm_cell cb3 (fun h => hbS _ h rfl)
    refine region_emT [9, 15, 16] (fun k => decide (k ≠ 0)) 146 (fun c => v.ownBlock = some c) 17 [0, 1, 2, 3, 4, 5, 6, 7, 8, 10, 11, 12] [9, 13, 14, 15, 16] (by kernel_rfl) (by kernel_rfl) (by kernel_rfl) ?_
    simp only [pick, List.map, List.getD_cons_zero, List.getD_cons_succ]
    repeat (go_big_quiet_step (fail))
    refine wpQuiet_nil ?_
    clear past0 past1
    apply Exists.intro
    apply em_eff 0 (fun u y => 1 ≤ y.st ∧ (y.st = 1 → OwnF FSp 146 y.to base u (xs ++ l.list) ∧ ∀ c, u.ownBlock = some c → v.ownBlock = some c ∨ w.heap.size ≤ c))
    · rfl
    · rfl
    · decide
    · exact fun m j hm => absurd hm (Nat.not_lt_zero m)
    · exact fun u x y ⟨h1, h2⟩ hle => ⟨Nat.le_trans h1 hle.st, fun hy => by
        have hx : x.st = 1 := by have := hle.st; omega
        obtain ⟨h3, h4⟩ := h2 hx
        exact ⟨h3.below (hle.same (by omega)), h4⟩⟩
    · exact fun x _ => Nat.zero_le _
    · intro x _ hx0 Qx hQ'
      have hQ := Lib.hid hQ'; clear hQ'
      have hb0 := x.zero hx0
      go_wp2_with fail
      refine (ihl x.to base v xs (Nat.le_trans hb hb0.size) (ho.below hb0) (hl.below hb0) (by omega)).mono ?_
      rintro e w2 ⟨u, rfl, h3, h4, h5⟩
      go_wp2_with fail
      exact hQ.out _ _ (h4.mono fun c _ h => .inl h) (by rw [hx0]; decide) ⟨by show 1 ≤ x.st + 1; omega, fun _ => ⟨h3, fun c h => (h5 c h).imp id fun h => Nat.le_trans hb0.size h⟩⟩
    intro u9
    simp only [Act.put, List.setIfInBounds_toArray, List.set_cons_zero, List.set_cons_succ]
    apply em_fix (.agg #[.int .i64 s.n, .int .i64 s.p])
    · intro x _ Qx hQ'
      have hQ := Lib.hid hQ'; clear hQ'
      have ca := pastm_cell cb0 (fun h => hbS _ h rfl) x
      have cb := pastm_cell cb1 (fun h => hbS _ h rfl) x
      go_wp2_with fail
      exact hQ.out _ (Below.refl _ _)
    simp only [Act.put, List.setIfInBounds_toArray, List.set_cons_zero, List.set_cons_succ]
    apply em_any (fun u y => y.st ≤ 1 → ∃ c, u = .slice (some ⟨c, 0, none⟩) 1 1 ∧ w.heap.size ≤ c ∧ Blk y.to c 146 #[.int .i64 s.n, .int .i64 s.p])
    · rfl
    · intro u x y h hle hy
      have hx := hle.st
      obtain ⟨c, e, hc, hk⟩ := h (by omega)
      refine ⟨c, e, hc, ?_⟩
      by_cases hxy : y.st = x.st
      · exact blk_keep hk (hle.same (by omega))
      · have hx0 : x.st = 0 := by omega
        refine blk_chg hk hle.chg ?_
        rintro (h1 | ⟨h1, _⟩)
        · have := hown c h1; omega
        · rw [hx0] at h1; exact absurd h1 (by decide)
    · intro x _ Qx hQ'
      have hQ := Lib.hid hQ'; clear hQ'
      go_wp2_with fail
      exact hQ.out _ _ (below_alloc _ _) fun _ => ⟨_, rfl, x.ok.size, Blk.new _ _ _⟩
    intro u14
    simp only [Act.put, List.setIfInBounds_toArray, List.set_cons_zero, List.set_cons_succ]
    apply em_eff 1 (fun u y => 2 ≤ y.st ∧ (y.st = 2 → OwnF FSp 146 y.to base u (xs ++ l.list ++ [s]) ∧ ∀ c, u.ownBlock = some c → v.ownBlock = some c ∨ w.heap.size ≤ c))
    · rfl
    · rfl
    · decide
    · intro m j hm hj
      obtain rfl : m = 0 := by omega
      cases hj
      exact behind_of 9 _ _ (by kernel_rfl)
    · exact fun u x y ⟨h1, h2⟩ hle => ⟨Nat.le_trans h1 hle.st, fun hy => by
        have hx : x.st = 2 := by have := hle.st; omega
        obtain ⟨h3, h4⟩ := h2 hx
        exact ⟨h3.below (hle.same (by omega)), h4⟩⟩
    · exact fun x hF => (hF.2.1 (by kernel_rfl)).1
    · intro x hF hx1 Qx hQ'
      have hQ := Lib.hid hQ'; clear hQ'
      obtain ⟨c, rfl, hc, hkc⟩ := hF.1 (by kernel_rfl) (by omega)
      obtain ⟨hO, hat⟩ := (hF.2.1 (by kernel_rfl)).2 hx1
      refine app_flatB (F := FSp) (v := u9) rfl (.tmp 17) (.tmp 22) 89 rfl elem_sp s rfl hO rfl hkc rfl (by rw [List.length_append, Tr.list_len]; omega) (Nat.le_trans hb x.ok.size) ?_
      intro v8 w8 o8 ch8 at8
      refine wpList_nil ?_
      refine hQ.out _ _ (ch8.mono fun d _ h => ?_) (by rw [hx1]; decide) ⟨by show 2 ≤ x.st + 1; omega, fun _ => ⟨o8, fun d h => ?_⟩⟩
      · rcases hat d h with h1 | h1
        · exact .inl h1
        · exact .inr ⟨by rw [hx1]; rfl, h1, (own_tym hO h).2⟩
      · rcases at8 d h with h1 | h1
        · exact hat d h1
        · exact .inr (Nat.le_trans x.ok.size h1)
    intro u15
    simp only [Act.put, List.setIfInBounds_toArray, List.set_cons_zero, List.set_cons_succ]
    apply em_eff 2 (fun u y => 3 ≤ y.st ∧ OwnF FSp 146 y.to base u (xs ++ l.list ++ [s] ++ r.list) ∧ ∀ c, u.ownBlock = some c → v.ownBlock = some c ∨ w.heap.size ≤ c)
    · rfl
    · rfl
    · decide
    · intro m j hm hj
      rcases (by omega : m = 0 ∨ m = 1) with rfl | rfl
      · cases hj
        exact behind_of 9 _ _ (by kernel_rfl)
      · cases hj
        exact behind_of 9 _ _ (by kernel_rfl)
    · exact fun u x y ⟨h1, h2, h3⟩ hle => ⟨Nat.le_trans h1 hle.st, h2.below (hle.same (by have : y.st ≤ 3 := y.lim; omega)), h3⟩
    · exact fun x hF => (hF.1 (by kernel_rfl)).1
    · intro x hF hx2 Qx hQ'
      have hQ := Lib.hid hQ'; clear hQ'
      obtain ⟨hO, hat⟩ := (hF.1 (by kernel_rfl)).2 hx2
      clear hF
      go_wp2_with fail
      refine (ihr x.to base u15 _ (Nat.le_trans hb x.ok.size) hO (Tin.chg x.on_ hr hrS) (by simp only [List.length_append, List.length_cons, List.length_nil, Tr.list_len]; omega)).mono ?_
      rintro e w2 ⟨u, rfl, h3, h4, h5⟩
      go_wp2_with fail
      refine hQ.out _ _ (h4.mono fun d _ h => ?_) (by rw [hx2]; decide) ⟨by show 3 ≤ x.st + 1; omega, h3, fun d h => ?_⟩
      · rcases hat d h with h1 | h1
        · exact .inl h1
        · exact .inr ⟨by rw [hx2]; rfl, h1, (own_tym hO h).2⟩
      · rcases h5 d h with h1 | h1
        · exact hat d h1
        · exact .inr (Nat.le_trans x.ok.size h1)
    intro u16
    simp only [Act.put, List.setIfInBounds_toArray, List.set_cons_zero, List.set_cons_succ]
    refine em_end fun x hF => ?_
    simp only [allF] at hF
    obtain ⟨⟨-, o16, at16⟩, -⟩ := hF
    have hcx := x.on_
    have hfin : xs ++ (Tr.node b s l r).list = xs ++ l.list ++ [s] ++ r.list := by simp [Tr.list]
    rw [← hfin] at o16
    simp only [List.drop]
    go_wp2_with fail
    go_ret
    exact ⟨_, rfl, o16, hcx, at16⟩
end Go.Proofs.YtpdkgpbfmpekgaaGreatDoor
