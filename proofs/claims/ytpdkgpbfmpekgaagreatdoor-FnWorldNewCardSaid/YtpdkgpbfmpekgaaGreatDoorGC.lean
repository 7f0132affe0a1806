/- Cln, ClnS, ClnT, Del, DelF. -/
import Derived.Test.YtpdkgpbfmpekgaaGreatDoorGE
import Derived.WalkSpells
import Derived.Laws.CopyRow
import Derived.Test.YtpdkgpbfmpekgaaGreatDoorInts



/- Copies in new memory: rows, packs, snapshots, stores, by the program. -/
namespace Go.Proofs.YtpdkgpbfmpekgaaGreatDoor
open Go.RowKit

section
variable {P : Program} {α : Type} {E : Rep α} {T : List TypeId} {sz : Nat} {e : TypeId}
/-- append(out, y): the one element lies in a block that is known, and owns what it leads to, behind all that out owns. -/
theorem app_orow (hE : TLoc E T) (heT : e ∉ T) {w : World} {ops : Array Oper} {rest : List Oper} {o : Oper} {a : Act} {Q : Exit → Act → World → Prop} (hgd : o.guard = none) (s x : Operand) (t : TypeId)
    (ho : o.op = .call { callee := .builtin .append, args := #[s, x], argTypes := #[t, t] })
    {bytes : Nat} (hEl : Elem P t e sz bytes) {lo mid hi : Nat} {v : Value} {xs : List α} (y : α) (hs : a.eval s = v) (hown : ORow e E sz w lo mid xs [v]) {g : Nat} {es : Array Value} {Ty : TypeId} (hx : a.eval x = .slice (some ⟨g, 0, none⟩) 1 1) (hk : Blk w g Ty es) (hel : es.toList.length = sz) (h1 : ∀ u ∈ es.toList, u.oneCell' = true) (hmid : mid ≤ hi) (hy : E w mid hi y es.toList) (hhi : hi ≤ w.heap.size)
    (hn : xs.length ≤ 1099511627775) (hbase : lo ≤ w.heap.size)
    (h : ∀ v' w', ORow e E sz w' lo w'.heap.size (xs ++ [y]) [v'] → Chg (fun b => v.ownBlock = some b) w w' → (∀ b, v'.ownBlock = some b → v.ownBlock = some b ∨ w.heap.size ≤ b) → wpList P ops Q rest (a.put o.dst v') w') :
    wpList P ops Q (o :: rest) a w := by
  obtain ⟨v0, cells, e1, hrow, hg, hels⟩ := hown
  cases e1
  refine app_many hgd s x t ho hEl hs hrow hx (news := es.toList) (by rw [hel, Nat.one_mul]) (fun _ => ⟨_, rfl, fun j u hu => by
    have hadd : (⟨g, 0, none⟩ : Addr).add j = ⟨g, j, none⟩ := by unfold Addr.add; split <;> simp_all
    rw [hadd, hk.cell, ← Array.getElem?_toList]; exact hu⟩) h1 (by omega) hbase fun v' w' h2 => h v' w' ?_ h2.chg h2.at_
  have hob : ∀ b, v.ownBlock = some b → ∃ ds, Blk w b e ds := fun b hb => by
    rcases hrow.2 with ⟨rfl, _⟩ | ⟨g', cap, cur, rfl, _, hk', _⟩
    · cases hb
    · cases hb; exact ⟨_, hk'⟩
  have hkeep : ∀ b, Typed w T b → w'.heap[b]? = w.heap[b]? := fun b ⟨t', ht', ds, hd⟩ => h2.chg.block b hd.lt fun hb => by
    obtain ⟨ds', hd'⟩ := hob b hb
    exact heT (blk_type hd' hd ▸ ht')
  have hsz := h2.chg.size
  refine ⟨v', cells ++ es.toList, rfl, by rw [List.length_append]; exact h2.own, fun b hb => (h2.own.lt b hb).2, ?_⟩
  have hS := Els.snoc (E := E) (hels.go (lo' := lo) (hi' := mid) hE (fun b _ _ ht => hkeep b ht) (Nat.le_refl _) (Nat.le_refl _)) (y := y) (es := es.toList) hel h1 (hi := w'.heap.size) (by omega) (hE.go (fun b _ _ ht => hkeep b ht) (Nat.le_refl _) (by omega) hy)
  exact hS hE.loc
end
theorem elem_hd : Elem Tryz.prog 25 76 2 16 := Elem.mk' Tryz.underlying25 (z := .agg #[.int .i64 0, .int .i64 0]) (by kernel_rfl) rfl (by decide) (by decide)
theorem elem_ls : Elem Tryz.prog 33 114 2 40 := Elem.mk' Tryz.underlying33 (z := .agg #[.string ⟨#[]⟩, .slice none 0 0]) (by kernel_rfl) rfl (by decide) (by decide)
theorem elem_sn : Elem Tryz.prog 24 35 2 32 := Elem.mk' Tryz.underlying24 (z := .agg #[.int .i64 0, .slice none 0 0]) (by kernel_rfl) rfl (by decide) (by decide)
theorem cloneN_int (xs : List Int) (v : Value) (w : World) (lo hi : Nat) (h : RSl (RFlat FInt) 1 w lo hi xs [v]) (hhi : hi ≤ w.heap.size) (hl : xs.length ≤ 1099511627776) :
    Calls Tryz.prog 196 #[v] w (NewFlat FInt 3 w xs) := by
  obtain ⟨A, c, rfl⟩ := h.form
  have src := Lib.hid (src_flat (F := FInt) h hhi)
  cases A with
  | none =>
    have h0 : xs = [] := by
      rcases Nat.eq_zero_or_pos xs.length with h0 | h0
      · exact List.eq_nil_of_length_eq_zero h0
      · obtain ⟨x, hx⟩ := some_of_lt h0
        obtain ⟨b, off, es, hA, _⟩ := h.at_ hx
        cases hA
    subst h0
    clear src h
    have hq := Go.Lib.run_eql_slice_nil (P := Tryz.prog) w 31 3 none 0 c 0 0 Tryz.underlying31
    go_enter Tryz.func196, Tryz.ntmps196
    go_wp2_with fail
    go_wp2_with fail
    go_ret
    exact ⟨_, rfl, OwnF.nil _ _ _, Below.refl _ _⟩
  | some ad =>
    have hq := Go.Lib.run_eql_slice_nil (P := Tryz.prog) w 31 3 (some ad) xs.length c 0 0 Tryz.underlying31
    have hb := below_alloc w (.cells #[] 3)
    have hw := Lib.hid (Lit0.new w 3 (Nat.le_refl _))
    go_enter Tryz.func196, Tryz.ntmps196
    go_wp2_with (at_builtin; refine app_copy (F := FInt) (xs := xs) hb rfl (.tmp 5) (.tmp 6) 31 rfl elem_int (Nat.le_refl _) rfl rfl hw.out src.out hl ?_; intro v' w' hb' ho)
    go_wp2_with fail
    go_ret
    exact ⟨_, rfl, ho, hb.trans (hb'.mono hb.size)⟩
theorem cloneN_it (xs : List It) (v : Value) (w : World) (lo hi : Nat) (h : RSl (RFlat FIt) 2 w lo hi xs [v]) (hhi : hi ≤ w.heap.size) (hl : xs.length ≤ 1099511627776) :
    Calls Tryz.prog 195 #[v] w (NewFlat FIt 110 w xs) := by
  obtain ⟨A, c, rfl⟩ := h.form
  have src := Lib.hid (src_flat (F := FIt) h hhi)
  cases A with
  | none =>
    have h0 : xs = [] := by
      rcases Nat.eq_zero_or_pos xs.length with h0 | h0
      · exact List.eq_nil_of_length_eq_zero h0
      · obtain ⟨x, hx⟩ := some_of_lt h0
        obtain ⟨b, off, es, hA, _⟩ := h.at_ hx
        cases hA
    subst h0
    clear src h
    have hq := Go.Lib.run_eql_slice_nil (P := Tryz.prog) w 38 110 none 0 c 0 0 Tryz.underlying38
    go_enter Tryz.func195, Tryz.ntmps195
    go_wp2_with fail
    go_wp2_with fail
    go_ret
    exact ⟨_, rfl, OwnF.nil _ _ _, Below.refl _ _⟩
  | some ad =>
    have hq := Go.Lib.run_eql_slice_nil (P := Tryz.prog) w 38 110 (some ad) xs.length c 0 0 Tryz.underlying38
    have hb := below_alloc w (.cells #[] 110)
    have hw := Lib.hid (Lit0.new w 110 (Nat.le_refl _))
    go_enter Tryz.func195, Tryz.ntmps195
    go_wp2_with (at_builtin; refine app_copy (F := FIt) (xs := xs) hb rfl (.tmp 5) (.tmp 6) 38 rfl elem_it (Nat.le_refl _) rfl rfl hw.out src.out hl ?_; intro v' w' hb' ho)
    go_wp2_with fail
    go_ret
    exact ⟨_, rfl, ho, hb.trans (hb'.mono hb.size)⟩
theorem cloneN_hd (xs : List Hd) (v : Value) (w : World) (lo hi : Nat) (h : RSl (RFlat FHd) 2 w lo hi xs [v]) (hhi : hi ≤ w.heap.size) (hl : xs.length ≤ 1099511627776) :
    Calls Tryz.prog 139 #[v] w (NewFlat FHd 76 w xs) := by
  obtain ⟨A, c, rfl⟩ := h.form
  have src := Lib.hid (src_flat (F := FHd) h hhi)
  cases A with
  | none =>
    have h0 : xs = [] := by
      rcases Nat.eq_zero_or_pos xs.length with h0 | h0
      · exact List.eq_nil_of_length_eq_zero h0
      · obtain ⟨x, hx⟩ := some_of_lt h0
        obtain ⟨b, off, es, hA, _⟩ := h.at_ hx
        cases hA
    subst h0
    clear src h
    have hq := Go.Lib.run_eql_slice_nil (P := Tryz.prog) w 25 76 none 0 c 0 0 Tryz.underlying25
    go_enter Tryz.func139, Tryz.ntmps139
    go_wp2_with fail
    go_wp2_with fail
    go_ret
    exact ⟨_, rfl, OwnF.nil _ _ _, Below.refl _ _⟩
  | some ad =>
    have hq := Go.Lib.run_eql_slice_nil (P := Tryz.prog) w 25 76 (some ad) xs.length c 0 0 Tryz.underlying25
    have hb := below_alloc w (.cells #[] 76)
    have hw := Lib.hid (Lit0.new w 76 (Nat.le_refl _))
    go_enter Tryz.func139, Tryz.ntmps139
    go_wp2_with (at_builtin; refine app_copy (F := FHd) (xs := xs) hb rfl (.tmp 5) (.tmp 6) 25 rfl elem_hd (Nat.le_refl _) rfl rfl hw.out src.out hl ?_; intro v' w' hb' ho)
    go_wp2_with fail
    go_ret
    exact ⟨_, rfl, ho, hb.trans (hb'.mono hb.size)⟩
set_option maxRecDepth 8000 in
theorem packClone_any (x : Pk) (v : Value) (w : World) (lo hi : Nat) (h : RItsL w lo hi x.its [v]) (hhi : hi ≤ w.heap.size) (hno : In64 x.no) (hl : x.its.length ≤ 1099511627776) :
    Calls Tryz.prog 137 #[.agg #[.int .i64 x.no, v]] w fun e w' => ∃ v', e = .returned (.agg #[.int .i64 x.no, v']) ∧ OPk w' w.heap.size w'.heap.size x [.int .i64 x.no, v'] ∧ Below w.heap.size w w' := by
  have hgood := RSl.good (F := FIt) h
  obtain ⟨A, c, rfl⟩ := RSl.form h
  go_enter Tryz.func137, Tryz.ntmps137
  go_wp2_with fail
  have hbw0 : Below w.heap.size w ((w.alloc (.cells #[.int .i64 x.no, .slice A x.its.length c] 40)).alloc (.cells #[.int .i64 0, .slice none 0 0] 40)) := below_alloc' (below_alloc _ _) _
  have k0 : Blk ((w.alloc (.cells #[.int .i64 x.no, .slice A x.its.length c] 40)).alloc (.cells #[.int .i64 0, .slice none 0 0] 40)) (w.heap.size) 40 #[.int .i64 x.no, .slice A x.its.length c] := by
    have hk := blk_alloc (Blk.new w 40 #[.int .i64 x.no, .slice A x.its.length c]) (.cells #[.int .i64 0, .slice none 0 0] 40)
    exact hk
  have k1 : Blk ((w.alloc (.cells #[.int .i64 x.no, .slice A x.its.length c] 40)).alloc (.cells #[.int .i64 0, .slice none 0 0] 40)) (w.heap.size + 1) 40 #[.int .i64 0, .slice none 0 0] := by
    have hk := Blk.new (w.alloc (.cells #[.int .i64 x.no, .slice A x.its.length c] 40)) 40 #[.int .i64 0, .slice none 0 0]
    simp only [World.size_alloc] at hk
    exact hk
  have hsw0 : w.heap.size + 2 ≤ ((w.alloc (.cells #[.int .i64 x.no, .slice A x.its.length c] 40)).alloc (.cells #[.int .i64 0, .slice none 0 0] 40)).heap.size := by simp only [World.size_alloc]; omega
  generalize ((w.alloc (.cells #[.int .i64 x.no, .slice A x.its.length c] 40)).alloc (.cells #[.int .i64 0, .slice none 0 0] 40)) = w0 at *
  have ck0 := k0.cell
  have fk0 := k0.frozen
  have ck1 := k1.cell
  have fk1 := k1.frozen
  refine (cloneN_it x.its _ w0 lo hi (RItsL.loc.below h hbw0 hhi) (Nat.le_trans hhi hbw0.size) hl).mono ?_
  rintro e w1 ⟨v1, rfl, o1, b1⟩
  replace k0 := blk_keep k0 b1
  replace ck0 := k0.cell
  replace fk0 := k0.frozen
  replace k1 := blk_keep k1 b1
  replace ck1 := k1.cell
  replace fk1 := k1.frozen
  obtain ⟨A1, c1, rfl⟩ := o1.form
  have z1 := b1.size
  have HO := Lib.hid (o1.orow hgood b1.size fun g hg => (o1.at_ hg).2)
  clear o1
  go_wp2_with fail
  exact bodyPost_ret (v := .agg #[.int .i64 x.no, .slice A1 x.its.length c1]) (by simp [results, Tryz.results137, go_sem, ck0, ck1]) rfl ⟨_, rfl, ⟨_, rfl, hno, OIts.tloc.go (fun b hb _ _ => by rw [Below.heap_setCell _ _ _ _ (by dsimp only; omega), Below.heap_setCell _ _ _ _ (by dsimp only; omega), Below.heap_setCell _ _ _ _ (by dsimp only; omega)]) (by omega) (by simp only [World.size_setCell]; exact Nat.le_refl _) HO.out⟩,
    (((below_below hbw0 b1).setCell (by dsimp only; omega) _).setCell (by dsimp only; omega) _).setCell (by dsimp only; omega) _⟩
end Go.Proofs.YtpdkgpbfmpekgaaGreatDoor




/- Copies of snapshots and of stores, by the program. -/
namespace Go.Proofs.YtpdkgpbfmpekgaaGreatDoor
open Go.RowKit

theorem stopper {p : Prop} (h : p ∧ True) : p := h.1
theorem ORow.ob {α : Type} {E : Rep α} {e : TypeId} {sz : Nat} {w : World} {lo hi : Nat} {v : Value} {xs : List α} (h : ORow e E sz w lo hi xs [v]) {b : Nat} (hb : v.ownBlock = some b) : lo ≤ b ∧ b < hi ∧ b < w.heap.size := by
  obtain ⟨v', cells, e1, h, hg, _⟩ := h
  cases e1
  exact ⟨(h.lt b hb).1, hg b hb, (h.lt b hb).2⟩
set_option maxRecDepth 8000 in
set_option maxHeartbeats 4000000 in
theorem snapClone_any (x : Sn) (v : Value) (w : World) (lo hi : Nat) (h : RLssL w lo hi x.all [v]) (hhi : hi ≤ w.heap.size) (hno : In64 x.no) (hl : bulkS bLs x.all ≤ 1099511627) :
    Calls Tryz.prog 138 #[.agg #[.int .i64 x.no, v]] w fun e w' => ∃ v', e = .returned (.agg #[.int .i64 x.no, v']) ∧ OSn w' w.heap.size w'.heap.size x [.int .i64 x.no, v'] ∧ Below w.heap.size w w' := by
  obtain ⟨A, c, rfl⟩ := RSl.form h
  obtain ⟨_, hc, hx⟩ := h.len_
  unfold maxLen at hx
  have hll := Nat.le_trans (bulkS_len (f := bLs) (l := x.all)) hl
  go_enter Tryz.func138, Tryz.ntmps138
  go_wp2_with fail
  have hbw0 : Below w.heap.size w (((w.alloc (.cells #[.int .i64 x.no, .slice A x.all.length c] 35)).alloc (.cells #[.int .i64 0, .slice none 0 0] 35)).alloc (.cells #[.int .i64 x.no, .slice none 0 0] 35)) := below_alloc' (below_alloc' (below_alloc _ _) _) _
  have k0 : Blk (((w.alloc (.cells #[.int .i64 x.no, .slice A x.all.length c] 35)).alloc (.cells #[.int .i64 0, .slice none 0 0] 35)).alloc (.cells #[.int .i64 x.no, .slice none 0 0] 35)) (w.heap.size) 35 #[.int .i64 x.no, .slice A x.all.length c] := by
    have hk := blk_alloc (blk_alloc (Blk.new w 35 #[.int .i64 x.no, .slice A x.all.length c]) (.cells #[.int .i64 0, .slice none 0 0] 35)) (.cells #[.int .i64 x.no, .slice none 0 0] 35)
    exact hk
  have k1 : Blk (((w.alloc (.cells #[.int .i64 x.no, .slice A x.all.length c] 35)).alloc (.cells #[.int .i64 0, .slice none 0 0] 35)).alloc (.cells #[.int .i64 x.no, .slice none 0 0] 35)) (w.heap.size + 1) 35 #[.int .i64 0, .slice none 0 0] := by
    have hk := blk_alloc (Blk.new (w.alloc (.cells #[.int .i64 x.no, .slice A x.all.length c] 35)) 35 #[.int .i64 0, .slice none 0 0]) (.cells #[.int .i64 x.no, .slice none 0 0] 35)
    simp only [World.size_alloc] at hk
    exact hk
  have k2 : Blk (((w.alloc (.cells #[.int .i64 x.no, .slice A x.all.length c] 35)).alloc (.cells #[.int .i64 0, .slice none 0 0] 35)).alloc (.cells #[.int .i64 x.no, .slice none 0 0] 35)) (w.heap.size + 1 + 1) 35 #[.int .i64 x.no, .slice none 0 0] := by
    have hk := Blk.new ((w.alloc (.cells #[.int .i64 x.no, .slice A x.all.length c] 35)).alloc (.cells #[.int .i64 0, .slice none 0 0] 35)) 35 #[.int .i64 x.no, .slice none 0 0]
    simp only [World.size_alloc] at hk
    exact hk
  have hsw0 : w.heap.size + 3 ≤ (((w.alloc (.cells #[.int .i64 x.no, .slice A x.all.length c] 35)).alloc (.cells #[.int .i64 0, .slice none 0 0] 35)).alloc (.cells #[.int .i64 x.no, .slice none 0 0] 35)).heap.size := by simp only [World.size_alloc]; omega
  generalize (((w.alloc (.cells #[.int .i64 x.no, .slice A x.all.length c] 35)).alloc (.cells #[.int .i64 0, .slice none 0 0] 35)).alloc (.cells #[.int .i64 x.no, .slice none 0 0] 35)) = w0 at *
  have ck0 := k0.cell
  have fk0 := k0.frozen
  have ck1 := k1.cell
  have fk1 := k1.frozen
  have ck2 := k2.cell
  have fk2 := k2.frozen
  go_loopw [12] (fun ii wr => ∃ (k : Nat) (vo : Value), k ≤ x.all.length ∧ ii = .int .i64 k ∧ OLss wr w0.heap.size wr.heap.size (x.all.take k) [vo] ∧ Blk wr (w.heap.size + 1) 35 #[.int .i64 0, .slice none 0 0] ∧ Blk wr (w.heap.size + 1 + 1) 35 #[.int .i64 x.no, vo] ∧ Below w.heap.size w wr ∧ w0.heap.size ≤ wr.heap.size) (fun ii _ => x.all.length - (intOf ii).toNat)
  case atStart => exact ⟨0, _, Nat.zero_le _, rfl, ORow.nil (Nat.le_refl _), k1, k2, hbw0, Nat.le_refl _⟩
  case round =>
    clear k0 k1 k2 ck0 ck1 ck2 fk0 fk1 fk2 hbw0
    obtain ⟨k, vo, hk, rfl, ho, k1, k2, hbr, hsr⟩ := hrel
    obtain ⟨Ao, co, rfl⟩ := ho.form
    have htl : (x.all.take k).length = k := by rw [List.length_take, Nat.min_eq_left hk]
    rw [htl] at ho k2
    by_cases hlt : k < x.all.length
    · obtain ⟨y, hyk⟩ := some_of_lt hlt
      have hbk := bulkS_mem (f := bLs) (List.mem_of_getElem? hyk)
      have hns : y.ns.length ≤ 1099511627 := by have h1 : y.ns.length ≤ bLs y := Nat.le_add_left _ _; omega
      obtain ⟨b, off, es, rfl, _, hbb, _, ⟨v2, rfl, hgd, hr⟩, hcc⟩ := (RLssL.loc.below h hbr hhi).at_ hyk
      obtain ⟨A2, c2, rfl⟩ := RSl.form hr
      have hc0 : wr.cell? ⟨b, off + k * 2, none⟩ = some (.string y.p) := by simpa using hcc 0 _ rfl
      have hc1 : wr.cell? ⟨b, off + k * 2 + 1, none⟩ = some (.slice A2 y.ns.length c2) := by simpa using hcc 1 _ rfl
      have hnext := take_succ hyk
      have HN := Lib.hid hnext
      have HY := Lib.hid hyk
      have HTL := Lib.hid htl
      have HR := Lib.hid hr
      clear hcc hyk hnext hbk htl hr
      go_wp2_with fail
      have hbwa : Below wr.heap.size wr (wr.alloc (.cells #[.string y.p, .slice A2 y.ns.length c2] 114)) := below_alloc _ _
      have m0 : Blk (wr.alloc (.cells #[.string y.p, .slice A2 y.ns.length c2] 114)) (wr.heap.size) 114 #[.string y.p, .slice A2 y.ns.length c2] := by
        have hk := Blk.new wr 114 #[.string y.p, .slice A2 y.ns.length c2]
        exact hk
      have hswa : wr.heap.size + 1 ≤ (wr.alloc (.cells #[.string y.p, .slice A2 y.ns.length c2] 114)).heap.size := by simp only [World.size_alloc]; omega
      generalize (wr.alloc (.cells #[.string y.p, .slice A2 y.ns.length c2] 114)) = wa at *
      have cm0 := m0.cell
      have fm0 := m0.frozen
      replace k1 := blk_keep k1 hbwa
      replace ck1 := k1.cell
      replace fk1 := k1.frozen
      replace k2 := blk_keep k2 hbwa
      replace ck2 := k2.cell
      replace fk2 := k2.frozen
      have ho2 := OLss.tloc.below ho hbwa (Nat.le_refl _)
      have HR2 := Lib.hid (RIntsL.loc.below HR.out hbwa (by have := hbr.size; omega))
      have hbr2 := below_below hbr hbwa
      clear ho hc0 hc1 HR hbr
      have fk := ck2 1
      have fm := cm0 0
      have fm1 := cm0 1
      have past0 := past_cell fk
      have past1 := past_cell fm
      have past2 := past_cell fm1
      refine region_pastT 9 [0, 1, 2, 3, 4, 5] [6, 7, 8] (by kernel_rfl) (by kernel_rfl) (by kernel_rfl) ?_
      simp only [pick, List.map, List.getD_cons_zero, List.getD_cons_succ]
      repeat (go_big_quiet_step (fail))
      refine wpQuiet_nil ?_
      clear past0 past1 past2
      apply Exists.intro
      apply past_any (fun v w' => ∃ A c, v = .slice A y.ns.length c ∧ OInts w' wa.heap.size w'.heap.size y.ns [v])
      · rfl
      · exact fun v x y ⟨A, c, e, ho⟩ hle => ⟨A, c, e, OInts.tloc.wide (OInts.tloc.below ho hle (Nat.le_refl _)) (Nat.le_refl _) hle.size⟩
      · intro z hF Qx hQ'
        have hQ := Lib.hid hQ'; clear hQ' hF
        have hd := RIntsL.loc.below HR2.out z.ok (by have := hbr2.size; omega)
        go_wp2_with fail
        refine (cloneN_int y.ns _ _ _ _ hd (by have := z.ok.size; have := hbr2.size; omega) (by omega)).mono ?_
        rintro e w5 ⟨v5, rfl, o5, b5⟩
        have hgood := hd.in64
        obtain ⟨A5, c5, rfl⟩ := o5.form
        go_wp2_with fail
        exact hQ.out _ _ b5 ⟨_, _, rfl, OInts.tloc.wide (o5.orow hgood b5.size fun g hg => (o5.at_ hg).2) z.ok.size (Nat.le_refl _)⟩
      intro v6
      simp only [Act.put, List.setIfInBounds_toArray, List.set_cons_zero, List.set_cons_succ]
      apply past_any (fun v w' => ∃ A c, v = .agg #[.string y.p, .slice A y.ns.length c] ∧ OInts w' wa.heap.size w'.heap.size y.ns [.slice A y.ns.length c])
      · rfl
      · exact fun v x y ⟨A, c, e, ho⟩ hle => ⟨A, c, e, OInts.tloc.wide (OInts.tloc.below ho hle (Nat.le_refl _)) (Nat.le_refl _) hle.size⟩
      · intro z hF Qx hQ'
        have hQ := Lib.hid hQ'; clear hQ'
        obtain ⟨A5, c5, rfl, o5⟩ := hF.1 (by kernel_rfl)
        go_wp2_with fail
        exact hQ.out _ _ (Below.refl _ _) ⟨_, _, rfl, o5⟩
      intro v7
      simp only [Act.put, List.setIfInBounds_toArray, List.set_cons_zero, List.set_cons_succ]
      apply past_any (fun v w' => ∃ g A c, v = .slice (some ⟨g, 0, none⟩) 1 1 ∧ wa.heap.size ≤ g ∧ Blk w' g 114 #[.string y.p, .slice A y.ns.length c] ∧ OInts w' wa.heap.size w'.heap.size y.ns [.slice A y.ns.length c])
      · rfl
      · exact fun v x y ⟨g, A, c, e, hg, hk, ho⟩ hle => ⟨g, A, c, e, hg, blk_keep hk hle, OInts.tloc.wide (OInts.tloc.below ho hle (Nat.le_refl _)) (Nat.le_refl _) hle.size⟩
      · intro z hF Qx hQ'
        have hQ := Lib.hid hQ'; clear hQ'
        obtain ⟨A5, c5, rfl, o5⟩ := hF.1 (by kernel_rfl)
        go_wp2_with fail
        have ba := below_alloc z.to (.cells #[.string y.p, .slice A5 y.ns.length c5] 114)
        exact hQ.out _ _ ba ⟨_, _, _, rfl, z.ok.size, Blk.new _ _ _, OInts.tloc.wide (OInts.tloc.below o5 ba (Nat.le_refl _)) (Nat.le_refl _) ba.size⟩
      intro v8
      simp only [Act.put, List.setIfInBounds_toArray, List.set_cons_zero, List.set_cons_succ]
      refine past_end ?_
      intro w6 hb6 xx hxx hF
      dsimp only [allF] at hF
      try rw [hxx] at hF
      clear hxx xx
      obtain ⟨⟨g8, A8, c8, rfl, hg8, kb8, o8⟩, -⟩ := hF
      simp only [List.drop]
      replace k1 := blk_keep k1 hb6
      replace ck1 := k1.cell
      replace fk1 := k1.frozen
      replace k2 := blk_keep k2 hb6
      replace ck2 := k2.cell
      replace fk2 := k2.frozen
      have ho3 := OLss.tloc.below ho2 hb6 (by have := hbwa.size; omega)
      have hbr3 := below_below hbr2 hb6
      have z6 := hb6.size
      have za := hbwa.size
      have HO3 := Lib.hid ho3
      have HO8 := Lib.hid o8
      have HK8 := Lib.hid kb8
      clear ho2 hbr2 hb6 ho3 o8 kb8 fk fm fm1
      go_wp2_with (at_builtin; refine stopper ?_)
      refine ⟨?_, trivial⟩
      refine app_orow OLs.tloc (by decide) (v := .slice Ao k co) rfl (.tmp 17) (.tmp 24) 33 rfl elem_ls y rfl HO3.out rfl HK8.out rfl (by simp [Value.oneCell']) (show wr.heap.size ≤ w6.heap.size by omega) ⟨_, rfl, hgd, OInts.tloc.wide HO8.out za (Nat.le_refl _)⟩ (Nat.le_refl _) (by have := HTL.out; omega) (by omega) ?_
      intro v9 w9 o9 ch9 at9
      obtain ⟨A9, c9, rfl⟩ := o9.form
      rw [List.length_append, List.length_singleton, HTL.out] at o9
      rw [List.length_append, List.length_singleton, HTL.out]
      have hch9 : ∀ b, (Value.slice Ao k co).ownBlock = some b → w0.heap.size ≤ b := fun b hb => (HO3.out.ob hb).1
      replace k1 := blk_chg k1 ch9 (fun hs => by have := hch9 _ hs; omega)
      replace k2 := blk_chg k2 ch9 (fun hs => by have := hch9 _ hs; omega)
      replace ck2 := k2.cell
      replace fk2 := k2.frozen
      go_wp2_with fail
      have hb9 : Below w.heap.size w w9 := hbr3.trans (ch9.below hbr3.size fun i hi hs => by have := hch9 i hs; omega)
      have z9 := ch9.size
      go_roundw
      case rel =>
        refine ⟨k + 1, .slice A9 (k + 1) c9, by omega, by go_num, ?_, blk_ne k1 (p := ⟨w.heap.size + 1 + 1, 1, none⟩) _ (by dsimp only; omega), ?_, hb9.setCell (by dsimp only; omega) _, by simp only [World.size_setCell]; omega⟩
        · rw [HN.out]
          exact OLss.tloc.loc.go (fun b hb _ => Below.heap_setCell _ _ _ _ (by dsimp only; omega)) (Nat.le_refl _) (by simp only [World.size_setCell]; exact Nat.le_refl _) o9
        · have := k2.set_ 1 (.slice A9 (k + 1) c9)
          simpa using this
      case measure => simp [intOf]; omega
    · obtain rfl : k = x.all.length := by omega
      rw [List.take_length] at ho
      have ck1 := k1.cell
      have fk1 := k1.frozen
      have ck2 := k2.cell
      have HO := Lib.hid ho; clear ho
      go_wp2_with fail
      exact bodyPost_ret (v := .agg #[.int .i64 x.no, .slice Ao x.all.length co]) (by simp [results, Tryz.results138, go_sem, ck1, ck2]) rfl ⟨_, rfl, ⟨_, rfl, hno, OLss.tloc.go (fun b hb _ _ => by rw [Below.heap_setCell _ _ _ _ (by dsimp only; omega), Below.heap_setCell _ _ _ _ (by dsimp only; omega)]) (by omega) (by simp only [World.size_setCell]; exact Nat.le_refl _) HO.out⟩,
        (hbr.setCell (by dsimp only; omega) _).setCell (by dsimp only; omega) _⟩
end Go.Proofs.YtpdkgpbfmpekgaaGreatDoor




/- A store anew, by the program. -/
namespace Go.Proofs.YtpdkgpbfmpekgaaGreatDoor
open Go.RowKit

set_option maxRecDepth 8000 in
set_option maxHeartbeats 8000000 in
theorem storeClone_any (s : Sto) (va vb vc : Value) (w : World) (lo hi : Nat) (h : RStoL w lo hi s va vb vc) (hhi : hi ≤ w.heap.size) (hl : bSto s ≤ 1099511627) :
    Calls Tryz.prog 85 #[.agg #[va, vb, vc]] w (NewSto w s) := by
  obtain ⟨h1, h2, h3⟩ := h
  obtain ⟨A, a, rfl⟩ := RSl.form h1
  obtain ⟨B, b, rfl⟩ := RSl.form h2
  obtain ⟨C, c, rfl⟩ := RSl.form h3
  obtain ⟨_, ha1, ha2⟩ := h1.len_
  obtain ⟨_, hb1, hb2⟩ := h2.len_
  obtain ⟨_, hc1, hc2⟩ := h3.len_
  unfold maxLen at ha2 hb2 hc2
  unfold bSto at hl
  have hl1 := bulkS_len (f := bPk) (l := s.pk)
  have hl2 := bulkS_len (f := bSn) (l := s.sn)
  go_enter Tryz.func85, Tryz.ntmps85
  go_wp2_with fail
  have hbw0 : Below w.heap.size w (((w.alloc (.cells #[.slice A s.pk.length a, .slice B s.sn.length b, .slice C s.lg.length c] 27)).alloc (.cells #[.slice none 0 0, .slice none 0 0, .slice none 0 0] 27)).alloc (.cells #[.slice none 0 0, .slice none 0 0, .slice none 0 0] 27)) := below_alloc' (below_alloc' (below_alloc _ _) _) _
  have k0 : Blk (((w.alloc (.cells #[.slice A s.pk.length a, .slice B s.sn.length b, .slice C s.lg.length c] 27)).alloc (.cells #[.slice none 0 0, .slice none 0 0, .slice none 0 0] 27)).alloc (.cells #[.slice none 0 0, .slice none 0 0, .slice none 0 0] 27)) (w.heap.size) 27 #[.slice A s.pk.length a, .slice B s.sn.length b, .slice C s.lg.length c] := by
    have hk := blk_alloc (blk_alloc (Blk.new w 27 #[.slice A s.pk.length a, .slice B s.sn.length b, .slice C s.lg.length c]) (.cells #[.slice none 0 0, .slice none 0 0, .slice none 0 0] 27)) (.cells #[.slice none 0 0, .slice none 0 0, .slice none 0 0] 27)
    exact hk
  have k1 : Blk (((w.alloc (.cells #[.slice A s.pk.length a, .slice B s.sn.length b, .slice C s.lg.length c] 27)).alloc (.cells #[.slice none 0 0, .slice none 0 0, .slice none 0 0] 27)).alloc (.cells #[.slice none 0 0, .slice none 0 0, .slice none 0 0] 27)) (w.heap.size + 1) 27 #[.slice none 0 0, .slice none 0 0, .slice none 0 0] := by
    have hk := blk_alloc (Blk.new (w.alloc (.cells #[.slice A s.pk.length a, .slice B s.sn.length b, .slice C s.lg.length c] 27)) 27 #[.slice none 0 0, .slice none 0 0, .slice none 0 0]) (.cells #[.slice none 0 0, .slice none 0 0, .slice none 0 0] 27)
    simp only [World.size_alloc] at hk
    exact hk
  have k2 : Blk (((w.alloc (.cells #[.slice A s.pk.length a, .slice B s.sn.length b, .slice C s.lg.length c] 27)).alloc (.cells #[.slice none 0 0, .slice none 0 0, .slice none 0 0] 27)).alloc (.cells #[.slice none 0 0, .slice none 0 0, .slice none 0 0] 27)) (w.heap.size + 1 + 1) 27 #[.slice none 0 0, .slice none 0 0, .slice none 0 0] := by
    have hk := Blk.new ((w.alloc (.cells #[.slice A s.pk.length a, .slice B s.sn.length b, .slice C s.lg.length c] 27)).alloc (.cells #[.slice none 0 0, .slice none 0 0, .slice none 0 0] 27)) 27 #[.slice none 0 0, .slice none 0 0, .slice none 0 0]
    simp only [World.size_alloc] at hk
    exact hk
  have hsw0 : w.heap.size + 3 ≤ (((w.alloc (.cells #[.slice A s.pk.length a, .slice B s.sn.length b, .slice C s.lg.length c] 27)).alloc (.cells #[.slice none 0 0, .slice none 0 0, .slice none 0 0] 27)).alloc (.cells #[.slice none 0 0, .slice none 0 0, .slice none 0 0] 27)).heap.size := by simp only [World.size_alloc]; omega
  generalize (((w.alloc (.cells #[.slice A s.pk.length a, .slice B s.sn.length b, .slice C s.lg.length c] 27)).alloc (.cells #[.slice none 0 0, .slice none 0 0, .slice none 0 0] 27)).alloc (.cells #[.slice none 0 0, .slice none 0 0, .slice none 0 0] 27)) = w0 at *
  have ck0 := k0.cell
  have fk0 := k0.frozen
  have ck1 := k1.cell
  have fk1 := k1.frozen
  have ck2 := k2.cell
  have fk2 := k2.frozen
  go_loopw [11] (fun ii wr => ∃ (k : Nat) (vo : Value), k ≤ s.pk.length ∧ ii = .int .i64 k ∧ OPks wr w0.heap.size wr.heap.size (s.pk.take k) [vo] ∧ Blk wr w.heap.size 27 #[.slice A s.pk.length a, .slice B s.sn.length b, .slice C s.lg.length c] ∧ Blk wr (w.heap.size + 1) 27 #[.slice none 0 0, .slice none 0 0, .slice none 0 0] ∧ Blk wr (w.heap.size + 1 + 1) 27 #[vo, .slice none 0 0, .slice none 0 0] ∧ Below w.heap.size w wr ∧ w0.heap.size ≤ wr.heap.size) (fun ii _ => s.pk.length - (intOf ii).toNat)
  case atStart => exact ⟨0, _, Nat.zero_le _, rfl, ORow.nil (Nat.le_refl _), k0, k1, k2, hbw0, Nat.le_refl _⟩
  case round =>
    clear k0 k1 k2 ck0 ck1 ck2 fk0 fk1 fk2 hbw0
    obtain ⟨k, vo, hk, rfl, ho, k0, k1, k2, hbr, hsr⟩ := hrel
    have ck0 := k0.cell
    obtain ⟨Ao, co, rfl⟩ := ho.form
    have htl : (s.pk.take k).length = k := by rw [List.length_take, Nat.min_eq_left hk]
    rw [htl] at ho k2
    by_cases hlt : k < s.pk.length
    · obtain ⟨y, hyk⟩ := some_of_lt hlt
      have hbk := bulkS_mem (f := bPk) (List.mem_of_getElem? hyk)
      obtain ⟨b', off, es, e0, _, hbb, _, ⟨v2, rfl, hgd, hr⟩, hcc⟩ := (RPksL.loc.below h1 hbr hhi).at_ hyk
      subst e0
      obtain ⟨A2, c2, rfl⟩ := RSl.form hr
      have hc0 : wr.cell? ⟨b', off + k * 2, none⟩ = some (.int .i64 y.no) := by simpa using hcc 0 _ rfl
      have hc1' : wr.cell? ⟨b', off + k * 2 + 1, none⟩ = some (.slice A2 y.its.length c2) := by simpa using hcc 1 _ rfl
      have hnext := take_succ hyk
      have HN := Lib.hid hnext
      have HTL := Lib.hid htl
      have HR := Lib.hid hr
      clear hcc hyk hnext htl hr
      go_wp2_with fail
      have hbwa : Below wr.heap.size wr (wr.alloc (.cells #[.int .i64 y.no, .slice A2 y.its.length c2] 40)) := below_alloc _ _
      have m0 : Blk (wr.alloc (.cells #[.int .i64 y.no, .slice A2 y.its.length c2] 40)) (wr.heap.size) 40 #[.int .i64 y.no, .slice A2 y.its.length c2] := by
        have hk := Blk.new wr 40 #[.int .i64 y.no, .slice A2 y.its.length c2]
        exact hk
      have hswa : wr.heap.size + 1 ≤ (wr.alloc (.cells #[.int .i64 y.no, .slice A2 y.its.length c2] 40)).heap.size := by simp only [World.size_alloc]; omega
      generalize (wr.alloc (.cells #[.int .i64 y.no, .slice A2 y.its.length c2] 40)) = wa at *
      have cm0 := m0.cell
      have fm0 := m0.frozen
      replace k0 := blk_keep k0 hbwa
      replace ck0 := k0.cell
      replace fk0 := k0.frozen
      replace k1 := blk_keep k1 hbwa
      replace ck1 := k1.cell
      replace fk1 := k1.frozen
      replace k2 := blk_keep k2 hbwa
      replace ck2 := k2.cell
      replace fk2 := k2.frozen
      have ho2 := OPks.tloc.below ho hbwa (Nat.le_refl _)
      have HR2 := Lib.hid (RItsL.loc.below HR.out hbwa (by have := hbr.size; omega))
      have hbr2 := below_below hbr hbwa
      clear ho hc0 hc1' HR hbr
      have fk := ck2 0
      have fm := cm0 0
      have fm1 := cm0 1
      have past0 := past_cell fk
      have past1 := past_cell fm
      have past2 := past_cell fm1
      refine region_pastT 5 [0, 1, 2] [3, 4] (by kernel_rfl) (by kernel_rfl) (by kernel_rfl) ?_
      simp only [pick, List.map, List.getD_cons_zero, List.getD_cons_succ]
      repeat (go_big_quiet_step (fail))
      refine wpQuiet_nil ?_
      clear past0 past1 past2
      apply Exists.intro
      apply past_any (fun v w' => ∃ A c, v = .agg #[.int .i64 y.no, .slice A y.its.length c] ∧ OPk w' wa.heap.size w'.heap.size y [.int .i64 y.no, .slice A y.its.length c])
      · rfl
      · exact fun v x y ⟨A, c, e, ho⟩ hle => ⟨A, c, e, OPk.tloc.wide (OPk.tloc.below ho hle (Nat.le_refl _)) (Nat.le_refl _) hle.size⟩
      · intro z hF Qx hQ'
        have hQ := Lib.hid hQ'; clear hQ' hF
        have hd := RItsL.loc.below HR2.out z.ok (by have := hbr2.size; omega)
        go_wp2_with fail
        refine (packClone_any y _ _ _ _ hd (by have := z.ok.size; have := hbr2.size; omega) hgd (by have h5 : y.its.length ≤ bPk y := bulkS_len; omega)).mono ?_
        rintro e w5 ⟨v5, rfl, o5, b5⟩
        obtain ⟨A5, c5, rfl⟩ : ∃ A c, v5 = .slice A y.its.length c := by
          obtain ⟨v6, e6, _, h6⟩ := o5
          cases e6
          exact ORow.form h6
        go_wp2_with fail
        exact hQ.out _ _ b5 ⟨_, _, rfl, OPk.tloc.wide o5 z.ok.size (Nat.le_refl _)⟩
      intro v6
      simp only [Act.put, List.setIfInBounds_toArray, List.set_cons_zero, List.set_cons_succ]
      apply past_any (fun v w' => ∃ g A c, v = .slice (some ⟨g, 0, none⟩) 1 1 ∧ wa.heap.size ≤ g ∧ Blk w' g 40 #[.int .i64 y.no, .slice A y.its.length c] ∧ OPk w' wa.heap.size w'.heap.size y [.int .i64 y.no, .slice A y.its.length c])
      · rfl
      · exact fun v x y ⟨g, A, c, e, hg, hk, ho⟩ hle => ⟨g, A, c, e, hg, blk_keep hk hle, OPk.tloc.wide (OPk.tloc.below ho hle (Nat.le_refl _)) (Nat.le_refl _) hle.size⟩
      · intro z hF Qx hQ'
        have hQ := Lib.hid hQ'; clear hQ'
        obtain ⟨A5, c5, rfl, o5⟩ := hF.1 (by kernel_rfl)
        go_wp2_with fail
        have ba := below_alloc z.to (.cells #[.int .i64 y.no, .slice A5 y.its.length c5] 40)
        exact hQ.out _ _ ba ⟨_, _, _, rfl, z.ok.size, Blk.new _ _ _, OPk.tloc.wide (OPk.tloc.below o5 ba (Nat.le_refl _)) (Nat.le_refl _) ba.size⟩
      intro v8
      simp only [Act.put, List.setIfInBounds_toArray, List.set_cons_zero, List.set_cons_succ]
      refine past_end ?_
      intro w6 hb6 xx hxx hF
      dsimp only [allF] at hF
      try rw [hxx] at hF
      clear hxx xx
      obtain ⟨⟨g8, A8, c8, rfl, hg8, kb8, o8⟩, -⟩ := hF
      simp only [List.drop]
      replace k0 := blk_keep k0 hb6
      replace ck0 := k0.cell
      replace fk0 := k0.frozen
      replace k1 := blk_keep k1 hb6
      replace ck1 := k1.cell
      replace fk1 := k1.frozen
      replace k2 := blk_keep k2 hb6
      replace ck2 := k2.cell
      replace fk2 := k2.frozen
      have za := hbwa.size
      have ho3 := OPks.tloc.below ho2 hb6 (by omega)
      have hbr3 := below_below hbr2 hb6
      have z6 := hb6.size
      have HO3 := Lib.hid ho3
      have HO8 := Lib.hid o8
      have HK8 := Lib.hid kb8
      clear ho2 hbr2 hb6 ho3 o8 kb8 fk fm fm1
      go_wp2_with (at_builtin; refine stopper ?_)
      refine ⟨?_, trivial⟩
      refine app_orow OPk.tloc (by decide) (v := .slice Ao k co) rfl (.tmp 16) (.tmp 19) 23 rfl elem_pk y rfl HO3.out rfl HK8.out rfl (by simp [Value.oneCell']) (show wr.heap.size ≤ w6.heap.size by omega) (OPk.tloc.wide HO8.out za (Nat.le_refl _)) (Nat.le_refl _) (by have := HTL.out; omega) (by omega) ?_
      intro v9 w9 o9 ch9 at9
      obtain ⟨A9, c9, rfl⟩ := o9.form
      rw [List.length_append, List.length_singleton, HTL.out] at o9
      rw [List.length_append, List.length_singleton, HTL.out]
      have hch9 : ∀ b, (Value.slice Ao k co).ownBlock = some b → w0.heap.size ≤ b := fun b hb => (HO3.out.ob hb).1
      replace k0 := blk_chg k0 ch9 (fun hs => by have := hch9 _ hs; omega)
      replace k1 := blk_chg k1 ch9 (fun hs => by have := hch9 _ hs; omega)
      replace k2 := blk_chg k2 ch9 (fun hs => by have := hch9 _ hs; omega)
      replace ck2 := k2.cell
      replace fk2 := k2.frozen
      go_wp2_with fail
      have hb9 : Below w.heap.size w w9 := hbr3.trans (ch9.below hbr3.size fun i hi hs => by have := hch9 i hs; omega)
      have z9 := ch9.size
      go_roundw
      case rel =>
        refine ⟨k + 1, .slice A9 (k + 1) c9, by omega, by go_num, ?_, blk_ne k0 (p := ⟨w.heap.size + 1 + 1, 0, none⟩) _ (by dsimp only; omega), blk_ne k1 (p := ⟨w.heap.size + 1 + 1, 0, none⟩) _ (by dsimp only; omega), ?_, hb9.setCell (by dsimp only; omega) _, by simp only [World.size_setCell]; omega⟩
        · rw [HN.out]
          exact OPks.tloc.loc.go (fun b hb _ => Below.heap_setCell _ _ _ _ (by dsimp only; omega)) (Nat.le_refl _) (by simp only [World.size_setCell]; exact Nat.le_refl _) o9
        · have := k2.set_ 0 (.slice A9 (k + 1) c9)
          simpa using this
      case measure => simp [intOf]; omega
    · obtain rfl : k = s.pk.length := by omega
      rw [List.take_length] at ho
      have ck1 := k1.cell
      have ck2 := k2.cell
      have fk0 := k0.frozen
      have fk1 := k1.frozen
      have fk2 := k2.frozen
      have hbw0 := hbr
      clear hbr
      obtain ⟨Ap, hAp⟩ : ∃ A, A = Ao := ⟨_, rfl⟩
      obtain ⟨cp, hcp⟩ : ∃ c, c = co := ⟨_, rfl⟩
      subst hAp hcp
      have HPK := Lib.hid ho; clear ho
      go_wp2_with fail
      generalize hwp : wr = wp at *
      clear hwp
      have hsp := hsr
      clear hsr
      go_loopw [26] (fun ii wr => ∃ (k : Nat) (vo : Value), k ≤ s.sn.length ∧ ii = .int .i64 k ∧ OSns wr wp.heap.size wr.heap.size (s.sn.take k) [vo] ∧ OPks wr w0.heap.size wp.heap.size s.pk [.slice Ap s.pk.length cp] ∧ Blk wr w.heap.size 27 #[.slice A s.pk.length a, .slice B s.sn.length b, .slice C s.lg.length c] ∧ Blk wr (w.heap.size + 1) 27 #[.slice none 0 0, .slice none 0 0, .slice none 0 0] ∧ Blk wr (w.heap.size + 1 + 1) 27 #[.slice Ap s.pk.length cp, vo, .slice none 0 0] ∧ Below w.heap.size w wr ∧ wp.heap.size ≤ wr.heap.size) (fun ii _ => s.sn.length - (intOf ii).toNat)
      case atStart => exact ⟨0, _, Nat.zero_le _, rfl, ORow.nil (Nat.le_refl _), HPK.out, k0, k1, k2, hbw0, Nat.le_refl _⟩
      case round =>
        clear k0 k1 k2 ck0 ck1 ck2 fk0 fk1 fk2 hbw0
        obtain ⟨k, vo, hk, rfl, ho, hpk, k0, k1, k2, hbr, hsr⟩ := hrel
        have ck0 := k0.cell
        obtain ⟨Ao, co, rfl⟩ := ho.form
        have htl : (s.sn.take k).length = k := by rw [List.length_take, Nat.min_eq_left hk]
        rw [htl] at ho k2
        by_cases hlt : k < s.sn.length
        · obtain ⟨y, hyk⟩ := some_of_lt hlt
          have hbk := bulkS_mem (f := bSn) (List.mem_of_getElem? hyk)
          obtain ⟨b', off, es, e0, _, hbb, _, ⟨v2, rfl, hgd, hr⟩, hcc⟩ := (RSnsL.loc.below h2 hbr hhi).at_ hyk
          subst e0
          obtain ⟨A2, c2, rfl⟩ := RSl.form hr
          have hc0 : wr.cell? ⟨b', off + k * 2, none⟩ = some (.int .i64 y.no) := by simpa using hcc 0 _ rfl
          have hc1' : wr.cell? ⟨b', off + k * 2 + 1, none⟩ = some (.slice A2 y.all.length c2) := by simpa using hcc 1 _ rfl
          have hnext := take_succ hyk
          have HN := Lib.hid hnext
          have HTL := Lib.hid htl
          have HR := Lib.hid hr
          clear hcc hyk hnext htl hr
          go_wp2_with fail
          have hbwa : Below wr.heap.size wr (wr.alloc (.cells #[.int .i64 y.no, .slice A2 y.all.length c2] 35)) := below_alloc _ _
          have m0 : Blk (wr.alloc (.cells #[.int .i64 y.no, .slice A2 y.all.length c2] 35)) (wr.heap.size) 35 #[.int .i64 y.no, .slice A2 y.all.length c2] := by
            have hk := Blk.new wr 35 #[.int .i64 y.no, .slice A2 y.all.length c2]
            exact hk
          have hswa : wr.heap.size + 1 ≤ (wr.alloc (.cells #[.int .i64 y.no, .slice A2 y.all.length c2] 35)).heap.size := by simp only [World.size_alloc]; omega
          generalize (wr.alloc (.cells #[.int .i64 y.no, .slice A2 y.all.length c2] 35)) = wa at *
          have cm0 := m0.cell
          have fm0 := m0.frozen
          replace k0 := blk_keep k0 hbwa
          replace ck0 := k0.cell
          replace fk0 := k0.frozen
          replace k1 := blk_keep k1 hbwa
          replace ck1 := k1.cell
          replace fk1 := k1.frozen
          replace k2 := blk_keep k2 hbwa
          replace ck2 := k2.cell
          replace fk2 := k2.frozen
          have ho2 := OSns.tloc.below ho hbwa (Nat.le_refl _)
          have HR2 := Lib.hid (RLssL.loc.below HR.out hbwa (by have := hbr.size; omega))
          have hbr2 := below_below hbr hbwa
          replace hpk := OPks.tloc.below hpk hbwa (by omega)
          clear ho hc0 hc1' HR hbr
          have fk := ck2 1
          have fm := cm0 0
          have fm1 := cm0 1
          have past0 := past_cell fk
          have past1 := past_cell fm
          have past2 := past_cell fm1
          refine region_pastT 5 [0, 1, 2] [3, 4] (by kernel_rfl) (by kernel_rfl) (by kernel_rfl) ?_
          simp only [pick, List.map, List.getD_cons_zero, List.getD_cons_succ]
          repeat (go_big_quiet_step (fail))
          refine wpQuiet_nil ?_
          clear past0 past1 past2
          apply Exists.intro
          apply past_any (fun v w' => ∃ A c, v = .agg #[.int .i64 y.no, .slice A y.all.length c] ∧ OSn w' wa.heap.size w'.heap.size y [.int .i64 y.no, .slice A y.all.length c])
          · rfl
          · exact fun v x y ⟨A, c, e, ho⟩ hle => ⟨A, c, e, OSn.tloc.wide (OSn.tloc.below ho hle (Nat.le_refl _)) (Nat.le_refl _) hle.size⟩
          · intro z hF Qx hQ'
            have hQ := Lib.hid hQ'; clear hQ' hF
            have hd := RLssL.loc.below HR2.out z.ok (by have := hbr2.size; omega)
            go_wp2_with fail
            refine (snapClone_any y _ _ _ _ hd (by have := z.ok.size; have := hbr2.size; omega) hgd (by have h5 : bulkS bLs y.all = bSn y := rfl; omega)).mono ?_
            rintro e w5 ⟨v5, rfl, o5, b5⟩
            obtain ⟨A5, c5, rfl⟩ : ∃ A c, v5 = .slice A y.all.length c := by
              obtain ⟨v6, e6, _, h6⟩ := o5
              cases e6
              exact ORow.form h6
            go_wp2_with fail
            exact hQ.out _ _ b5 ⟨_, _, rfl, OSn.tloc.wide o5 z.ok.size (Nat.le_refl _)⟩
          intro v6
          simp only [Act.put, List.setIfInBounds_toArray, List.set_cons_zero, List.set_cons_succ]
          apply past_any (fun v w' => ∃ g A c, v = .slice (some ⟨g, 0, none⟩) 1 1 ∧ wa.heap.size ≤ g ∧ Blk w' g 35 #[.int .i64 y.no, .slice A y.all.length c] ∧ OSn w' wa.heap.size w'.heap.size y [.int .i64 y.no, .slice A y.all.length c])
          · rfl
          · exact fun v x y ⟨g, A, c, e, hg, hk, ho⟩ hle => ⟨g, A, c, e, hg, blk_keep hk hle, OSn.tloc.wide (OSn.tloc.below ho hle (Nat.le_refl _)) (Nat.le_refl _) hle.size⟩
          · intro z hF Qx hQ'
            have hQ := Lib.hid hQ'; clear hQ'
            obtain ⟨A5, c5, rfl, o5⟩ := hF.1 (by kernel_rfl)
            go_wp2_with fail
            have ba := below_alloc z.to (.cells #[.int .i64 y.no, .slice A5 y.all.length c5] 35)
            exact hQ.out _ _ ba ⟨_, _, _, rfl, z.ok.size, Blk.new _ _ _, OSn.tloc.wide (OSn.tloc.below o5 ba (Nat.le_refl _)) (Nat.le_refl _) ba.size⟩
          intro v8
          simp only [Act.put, List.setIfInBounds_toArray, List.set_cons_zero, List.set_cons_succ]
          refine past_end ?_
          intro w6 hb6 xx hxx hF
          dsimp only [allF] at hF
          try rw [hxx] at hF
          clear hxx xx
          obtain ⟨⟨g8, A8, c8, rfl, hg8, kb8, o8⟩, -⟩ := hF
          simp only [List.drop]
          replace k0 := blk_keep k0 hb6
          replace ck0 := k0.cell
          replace fk0 := k0.frozen
          replace k1 := blk_keep k1 hb6
          replace ck1 := k1.cell
          replace fk1 := k1.frozen
          replace k2 := blk_keep k2 hb6
          replace ck2 := k2.cell
          replace fk2 := k2.frozen
          have za := hbwa.size
          have ho3 := OSns.tloc.below ho2 hb6 (by omega)
          have hbr3 := below_below hbr2 hb6
          have z6 := hb6.size
          replace hpk := OPks.tloc.below hpk hb6 (by omega)
          have HO3 := Lib.hid ho3
          have HO8 := Lib.hid o8
          have HK8 := Lib.hid kb8
          clear ho2 hbr2 hb6 ho3 o8 kb8 fk fm fm1
          go_wp2_with (at_builtin; refine stopper ?_)
          refine ⟨?_, trivial⟩
          refine app_orow OSn.tloc (by decide) (v := .slice Ao k co) rfl (.tmp 31) (.tmp 34) 24 rfl elem_sn y rfl HO3.out rfl HK8.out rfl (by simp [Value.oneCell']) (show wr.heap.size ≤ w6.heap.size by omega) (OSn.tloc.wide HO8.out za (Nat.le_refl _)) (Nat.le_refl _) (by have := HTL.out; omega) (by omega) ?_
          intro v9 w9 o9 ch9 at9
          obtain ⟨A9, c9, rfl⟩ := o9.form
          rw [List.length_append, List.length_singleton, HTL.out] at o9
          rw [List.length_append, List.length_singleton, HTL.out]
          have hch9 : ∀ b, (Value.slice Ao k co).ownBlock = some b → wp.heap.size ≤ b := fun b hb => (HO3.out.ob hb).1
          replace k0 := blk_chg k0 ch9 (fun hs => by have := hch9 _ hs; omega)
          replace k1 := blk_chg k1 ch9 (fun hs => by have := hch9 _ hs; omega)
          replace k2 := blk_chg k2 ch9 (fun hs => by have := hch9 _ hs; omega)
          replace ck2 := k2.cell
          replace fk2 := k2.frozen
          replace hpk := OPks.tloc.chg hpk ch9 (fun b _ hb _ hs => by have := hch9 b hs; omega)
          go_wp2_with fail
          have hb9 : Below w.heap.size w w9 := hbr3.trans (ch9.below hbr3.size fun i hi hs => by have := hch9 i hs; omega)
          have z9 := ch9.size
          go_roundw
          case rel =>
            refine ⟨k + 1, .slice A9 (k + 1) c9, by omega, by go_num, ?_, ?_, blk_ne k0 (p := ⟨w.heap.size + 1 + 1, 1, none⟩) _ (by dsimp only; omega), blk_ne k1 (p := ⟨w.heap.size + 1 + 1, 1, none⟩) _ (by dsimp only; omega), ?_, hb9.setCell (by dsimp only; omega) _, by simp only [World.size_setCell]; omega⟩
            · rw [HN.out]
              exact OSns.tloc.loc.go (fun b hb _ => Below.heap_setCell _ _ _ _ (by dsimp only; omega)) (Nat.le_refl _) (by simp only [World.size_setCell]; exact Nat.le_refl _) o9
            · exact OPks.tloc.loc.go (fun b hb _ => Below.heap_setCell _ _ _ _ (by dsimp only; omega)) (Nat.le_refl _) (Nat.le_refl _) hpk
            · have := k2.set_ 1 (.slice A9 (k + 1) c9)
              simpa using this
          case measure => simp [intOf]; omega
        · obtain rfl : k = s.sn.length := by omega
          rw [List.take_length] at ho
          have ck1 := k1.cell
          have ck2 := k2.cell
          have fk0 := k0.frozen
          have fk1 := k1.frozen
          have fk2 := k2.frozen
          have HSN := Lib.hid ho; have HPK2 := Lib.hid hpk; clear ho hpk HPK
          go_wp2_with fail
          have hgood := RSl.good (F := FHd) h3
          refine (cloneN_hd s.lg _ wr lo hi (RHdsL.loc.below h3 hbr hhi) (Nat.le_trans hhi hbr.size) (by omega)).mono ?_
          rintro e w5 ⟨v5, rfl, o5, b5⟩
          replace k0 := blk_keep k0 b5
          replace ck0 := k0.cell
          replace fk0 := k0.frozen
          replace k1 := blk_keep k1 b5
          replace ck1 := k1.cell
          replace fk1 := k1.frozen
          replace k2 := blk_keep k2 b5
          replace ck2 := k2.cell
          replace fk2 := k2.frozen
          obtain ⟨A5, c5, rfl⟩ := o5.form
          have z5 := b5.size
          have HO := Lib.hid (o5.orow hgood b5.size fun g hg => (o5.at_ hg).2)
          have HSN3 := Lib.hid (OSns.tloc.below HSN.out b5 (Nat.le_refl _))
          have HPK3 := Lib.hid (OPks.tloc.below HPK2.out b5 (by omega))
          clear o5
          go_wp2_with fail
          have hke : ∀ (u0 u1 u2 u3 : Value) (b : Nat), w0.heap.size ≤ b → ((((w5.setCell ⟨w.heap.size + 1 + 1, 2, none⟩ u0).setCell ⟨w.heap.size + 1, 0, none⟩ u1).setCell ⟨w.heap.size + 1, 1, none⟩ u2).setCell ⟨w.heap.size + 1, 2, none⟩ u3).heap[b]? = w5.heap[b]? := fun u0 u1 u2 u3 b hb => by
            rw [Below.heap_setCell _ _ _ _ (by dsimp only; omega), Below.heap_setCell _ _ _ _ (by dsimp only; omega), Below.heap_setCell _ _ _ _ (by dsimp only; omega), Below.heap_setCell _ _ _ _ (by dsimp only; omega)]
          exact bodyPost_ret (v := .agg #[_, _, _]) (by simp [results, Tryz.results85, go_sem, ck1, ck2]) rfl ⟨_, _, _, rfl,
            ⟨OPks.tloc.loc.go (fun b hb _ => hke _ _ _ _ b hb) (by omega) (by simp only [World.size_setCell]; omega) HPK3.out, OSns.tloc.loc.go (fun b hb _ => hke _ _ _ _ b (by omega)) (by omega) (by simp only [World.size_setCell]; omega) HSN3.out, OHds.tloc.loc.go (fun b hb _ => hke _ _ _ _ b (by omega)) (by omega) (by simp only [World.size_setCell]; exact Nat.le_refl _) HO.out⟩,
            ((((below_below hbr b5).setCell (by dsimp only; omega) _).setCell (by dsimp only; omega) _).setCell (by dsimp only; omega) _).setCell (by dsimp only; omega) _⟩
end Go.Proofs.YtpdkgpbfmpekgaaGreatDoor




/- slices.DeleteFunc on rows whose elements own what they lead to: what the row is like while it is being gone through. -/
namespace Go.Proofs.YtpdkgpbfmpekgaaGreatDoor
open Go.RowKit

section
variable {α : Type} {E : Rep α} {T : List TypeId} {e : TypeId}
theorem Els.take_ {w : World} {lo sz : Nat} {xs : List α} {cells : List Value} {m : Nat → Nat} (hl : cells.length = xs.length * sz) (h1 : ∀ u ∈ cells, u.oneCell' = true) (hm : ∀ i, m i ≤ m (i + 1)) (h0 : lo ≤ m 0)
    (hE : ∀ i x, xs[i]? = some x → ∃ es : List Value, es.length = sz ∧ E w (m i) (m (i + 1)) x es ∧ ∀ j u, es[j]? = some u → cells[i * sz + j]? = some u) {j : Nat} (hj : j ≤ xs.length) : Els E sz w lo (m j) (xs.take j) (cells.take (j * sz)) := by
  have hlj : (xs.take j).length = j := by rw [List.length_take]; omega
  have hjs : j * sz ≤ xs.length * sz := Nat.mul_le_mul_right _ hj
  refine ⟨by rw [List.length_take, hlj, hl]; omega, fun u hu => h1 u (List.mem_of_mem_take hu), m, hm, h0, by rw [hlj]; exact Nat.le_refl _, fun i x hi => ?_⟩
  rw [List.getElem?_take] at hi
  split at hi
  · rename_i hij
    obtain ⟨es, e1, e2, e3⟩ := hE i x hi
    refine ⟨es, e1, e2, fun t u hu => ?_⟩
    have ht := lt_of_some hu
    have hb : (i + 1) * sz ≤ j * sz := Nat.mul_le_mul_right _ hij
    rw [Nat.succ_mul] at hb
    rw [List.getElem?_take, if_pos (by omega)]
    exact e3 t u hu
  · cases hi
theorem Els.wide {w : World} {lo hi hi' sz : Nat} {xs : List α} {cells : List Value} (h : Els E sz w lo hi xs cells) (hh : hi ≤ hi') : Els E sz w lo hi' xs cells := by
  obtain ⟨a, b, m, m1, m2, m3, m4⟩ := h
  exact ⟨a, b, m, m1, m2, Nat.le_trans m3 hh, m4⟩
/-- The elements up to j gone through: those that stay lie in front. -/
def DelSt (e : TypeId) (E : Rep α) (w : World) (lo hi g N : Nat) (xs : List α) (p : α → Bool) (j : Nat) : Prop :=
  ∃ (cur : Array Value) (m : Nat → Nat) (ess : Nat → List Value) (cells : List Value), Blk w g e cur ∧ cur.size = N ∧ lo ≤ g ∧ g < hi ∧ xs.length * 2 ≤ N ∧ (∀ i, m i ≤ m (i + 1)) ∧ lo ≤ m 0 ∧ m xs.length ≤ hi ∧
    (∀ i x, xs[i]? = some x → (ess i).length = 2 ∧ (∀ u ∈ ess i, u.oneCell' = true) ∧ E w (m i) (m (i + 1)) x (ess i)) ∧
    (∀ (i : Nat) (x : α), j ≤ i → xs[i]? = some x → ∀ (t : Nat) (u : Value), (ess i)[t]? = some u → cur[i * 2 + t]? = some u) ∧
    Els E 2 w lo (m j) ((xs.take j).filter fun x => !p x) cells ∧ ∀ (k : Nat) (u : Value), cells[k]? = some u → cur[k]? = some u
theorem DelSt.start {w : World} {lo hi g c n : Nat} {xs : List α} (h : ORow e E 2 w lo hi xs [.slice (some ⟨g, 0, none⟩) n c]) (p : α → Bool) {j : Nat} (hj : j ≤ xs.length) (hp : ∀ y ∈ xs.take j, p y = false) : DelSt e E w lo hi g (c * 2) xs p j := by
  obtain ⟨v', cells, e1, ho, hg, hl, h1, m, m1, m2, m3, m4⟩ := h
  cases e1
  obtain ⟨A, c', e2⟩ := own_form ho
  cases e2
  rcases ho.2 with ⟨h0, _⟩ | ⟨g', cap, cur, h0, hb, hk, hnc, hcm, hcs, htake⟩
  · cases h0
  cases h0
  have hcur : ∀ (k : Nat) (u : Value), cells[k]? = some u → cur[k]? = some u := fun k u hu => by
    rw [← htake, List.getElem?_take] at hu
    split at hu
    · simpa using hu
    · cases hu
  have hchoose : ∀ i, ∃ es : List Value, ∀ x, xs[i]? = some x → es.length = 2 ∧ E w (m i) (m (i + 1)) x es ∧ ∀ t u, es[t]? = some u → cells[i * 2 + t]? = some u := fun i => by
    cases hx : xs[i]? with
    | none => exact ⟨[], fun x h => by cases h⟩
    | some y =>
      obtain ⟨es, e1, e2, e3⟩ := m4 i y hx
      exact ⟨es, fun x h => by cases h; exact ⟨e1, e2, e3⟩⟩
  refine ⟨cur, m, fun i => Classical.choose (hchoose i), cells.take (j * 2), hk, hcs, hb, hg g rfl, Nat.mul_le_mul_right _ hnc, m1, m2, m3, fun i x hx => ?_, fun i x _ hx t u hu => ?_, ?_, fun k u hu => ?_⟩
  · obtain ⟨a, b, c⟩ := Classical.choose_spec (hchoose i) x hx
    refine ⟨a, fun u hu => ?_, b⟩
    obtain ⟨t, ht⟩ := List.getElem?_of_mem hu
    exact h1 u (List.mem_of_getElem? (c t u ht))
  · obtain ⟨a, b, c⟩ := Classical.choose_spec (hchoose i) x hx
    exact hcur _ _ (c t u hu)
  · have hf : (xs.take j).filter (fun x => !p x) = xs.take j := List.filter_eq_self.2 fun y hy => by rw [hp y hy]; rfl
    rw [hf]
    exact Els.take_ hl h1 m1 m2 m4 hj
  · rw [List.getElem?_take] at hu
    split at hu
    · exact hcur k u hu
    · cases hu
theorem DelSt.keep (hE : TLoc E T) {w w' : World} {lo hi g N j : Nat} {xs : List α} {p : α → Bool} (h : DelSt e E w lo hi g N xs p j) (hb : Below w.heap.size w w') (hh : hi ≤ w.heap.size) (hj : j ≤ xs.length) : DelSt e E w' lo hi g N xs p j := by
  obtain ⟨cur, m, ess, cells, hk, a1, a2, a3, a4, m1, m2, m3, b1, b2, b3, b4⟩ := h
  refine ⟨cur, m, ess, cells, blk_keep hk hb, a1, a2, a3, a4, m1, m2, m3, fun i x hx => ?_, b2, b3.go hE (fun b _ h2 _ => hb.block b ?_) (Nat.le_refl _) (Nat.le_refl _), b4⟩
  · obtain ⟨c1, c2, c3⟩ := b1 i x hx
    have := mono_of m1 (show i + 1 ≤ xs.length from lt_of_some hx)
    exact ⟨c1, c2, hE.below c3 hb (by omega)⟩
  · have := mono_of m1 hj
    omega
theorem DelSt.drop {w : World} {lo hi g N j : Nat} {xs : List α} {p : α → Bool} (h : DelSt e E w lo hi g N xs p j) {x : α} (hx : xs[j]? = some x) (hp : p x = true) : DelSt e E w lo hi g N xs p (j + 1) := by
  obtain ⟨cur, m, ess, cells, hk, a1, a2, a3, a4, m1, m2, m3, b1, b2, b3, b4⟩ := h
  refine ⟨cur, m, ess, cells, hk, a1, a2, a3, a4, m1, m2, m3, b1, fun i x hi => b2 i x (by omega), ?_, b4⟩
  rw [take_succ hx, List.filter_append]
  have : [x].filter (fun x => !p x) = [] := by simp [hp]
  rw [this, List.append_nil]
  exact b3.wide (m1 j)
theorem filter_keep {xs : List α} {p : α → Bool} {j : Nat} {x : α} (hx : xs[j]? = some x) (hp : p x = false) : (xs.take (j + 1)).filter (fun x => !p x) = (xs.take j).filter (fun x => !p x) ++ [x] := by
  rw [take_succ hx, List.filter_append]
  congr 1
  simp [hp]
theorem filter_drop {xs : List α} {p : α → Bool} {j : Nat} {x : α} (hx : xs[j]? = some x) (hp : p x = true) : (xs.take (j + 1)).filter (fun x => !p x) = (xs.take j).filter (fun x => !p x) := by
  rw [take_succ hx, List.filter_append]
  have : [x].filter (fun x => !p x) = [] := by simp [hp]
  rw [this, List.append_nil]
theorem DelSt.at_ (hE : TLoc E T) (heT : e ∉ T) {w : World} {lo hi g N j : Nat} {xs : List α} {p : α → Bool} (h : DelSt e E w lo hi g N xs p j) {x : α} (hx : xs[j]? = some x) :
    ∃ m m' es, m ≤ m' ∧ es.length = 2 ∧ E w m m' x es ∧ (∀ t u, es[t]? = some u → w.cell? ⟨g, j * 2 + t, none⟩ = some u) ∧
      ∀ (u0 u1 : Value) (i : Nat), es = [u0, u1] → p x = false → i = ((xs.take j).filter fun x => !p x).length → i < j → DelSt e E ((w.setCell ⟨g, i * 2, none⟩ u0).setCell ⟨g, i * 2 + 1, none⟩ u1) lo hi g N xs p (j + 1) := by
  obtain ⟨cur, m, ess, cells, hk, a1, a2, a3, a4, m1, m2, m3, b1, b2, b3, b4⟩ := h
  obtain ⟨c1, c2, c3⟩ := b1 j x hx
  have hjl := lt_of_some hx
  refine ⟨m j, m (j + 1), ess j, m1 j, c1, c3, fun t u hu => by rw [hk.cell]; exact b2 j x (Nat.le_refl _) hx t u hu, fun u0 u1 i hes hp hi hij => ?_⟩
  have hcl : cells.length = i * 2 := by rw [b3.1, ← hi]
  have hk2 : Blk ((w.setCell ⟨g, i * 2, none⟩ u0).setCell ⟨g, i * 2 + 1, none⟩ u1) g e ((cur.setIfInBounds (i * 2) u0).setIfInBounds (i * 2 + 1) u1) := (hk.set_ (i * 2) u0).set_ (i * 2 + 1) u1
  have hgT : ¬ Typed w T g := fun ⟨t, ht, ds, hd⟩ => heT (blk_type hk hd ▸ ht)
  have hkeep : ∀ b, Typed w T b → ((w.setCell ⟨g, i * 2, none⟩ u0).setCell ⟨g, i * 2 + 1, none⟩ u1).heap[b]? = w.heap[b]? := fun b ht => by
    have hne : b ≠ g := by rintro rfl; exact hgT ht
    rw [Below.heap_setCell _ _ _ _ hne, Below.heap_setCell _ _ _ _ hne]
  have hcur : ∀ k, k ≠ i * 2 → k ≠ i * 2 + 1 → ((cur.setIfInBounds (i * 2) u0).setIfInBounds (i * 2 + 1) u1)[k]? = cur[k]? := fun k h1 h2 => by
    rw [Array.getElem?_setIfInBounds, if_neg (Ne.symm h2), Array.getElem?_setIfInBounds, if_neg (Ne.symm h1)]
  have hone : ∀ u ∈ ([u0, u1] : List Value), u.oneCell' = true := fun u hu => c2 u (by rw [hes]; exact hu)
  refine ⟨_, m, ess, cells ++ [u0, u1], hk2, by simpa using a1, a2, a3, a4, m1, m2, m3, fun i' x' hx' => ?_, fun i' x' hi' hx' t u hu => ?_, ?_, fun k u hu => ?_⟩
  · obtain ⟨d1, d2, d3⟩ := b1 i' x' hx'
    exact ⟨d1, d2, hE.go (fun b _ _ ht => hkeep b ht) (Nat.le_refl _) (Nat.le_refl _) d3⟩
  · rw [hcur _ (by omega) (by omega)]
    exact b2 i' x' (by omega) hx' t u hu
  · rw [filter_keep hx hp]
    have h' := Els.snoc (E := E) (b3.go (lo' := lo) (hi' := m j) hE (fun b _ _ ht => hkeep b ht) (Nat.le_refl _) (Nat.le_refl _)) (y := x) (es := [u0, u1]) rfl hone (m1 j) (hE.go (fun b _ _ ht => hkeep b ht) (Nat.le_refl _) (Nat.le_refl _) (by rw [← hes]; exact c3))
    exact h' hE.loc
  · rcases Nat.lt_or_ge k cells.length with hk' | hk'
    · rw [List.getElem?_append_left hk'] at hu
      rw [hcur _ (by omega) (by omega)]
      exact b4 k u hu
    · rw [List.getElem?_append_right hk', hcl] at hu
      have hlt := lt_of_some hu
      simp only [List.length_cons, List.length_nil] at hlt
      have hsz : i * 2 + 1 < cur.size := by rw [a1]; omega
      rcases Nat.lt_or_ge (k - i * 2) 1 with h1 | h1
      · obtain rfl : k = i * 2 := by omega
        rw [Nat.sub_self] at hu
        simp at hu
        subst hu
        rw [Array.getElem?_setIfInBounds, if_neg (by omega), Array.getElem?_setIfInBounds, if_pos rfl, if_pos (by omega)]
      · obtain rfl : k = i * 2 + 1 := by omega
        rw [show i * 2 + 1 - i * 2 = 1 by omega] at hu
        simp at hu
        subst hu
        rw [Array.getElem?_setIfInBounds, if_pos rfl, if_pos (by simp; omega)]
theorem DelSt.frozen {w : World} {lo hi g N j : Nat} {xs : List α} {p : α → Bool} (h : DelSt e E w lo hi g N xs p j) (k : Nat) : w.frozen? ⟨g, k, none⟩ = false := by
  obtain ⟨cur, m, ess, cells, hk, _⟩ := h
  exact hk.frozen k
theorem DelSt.there {w : World} {lo hi g N j : Nat} {xs : List α} {p : α → Bool} (h : DelSt e E w lo hi g N xs p j) {k : Nat} (hk : k < N) : ∃ u, w.cell? ⟨g, k, none⟩ = some u := by
  obtain ⟨cur, m, ess, cells, hb, a1, _⟩ := h
  rw [hb.cell]
  exact ⟨_, Array.getElem?_eq_getElem (by omega)⟩
theorem DelSt.end_ (hE : TLoc E T) (heT : e ∉ T) {w : World} {lo hi g N c : Nat} {xs : List α} {p : α → Bool} (h : DelSt e E w lo hi g N xs p xs.length) (hN : N = c * 2) (hc : c ≤ maxLen) :
    ∃ cur, Blk w g e cur ∧ cur.size = N ∧ ∀ (w' : World) (cur' : Array Value), Blk w' g e cur' → cur'.size = N → (∀ k, k < (xs.filter fun x => !p x).length * 2 → cur'[k]? = cur[k]?) → Chg (fun b => b = g) w w' →
      ORow e E 2 w' lo hi (xs.filter fun x => !p x) [.slice (some ⟨g, 0, none⟩) (xs.filter fun x => !p x).length c] := by
  obtain ⟨cur, m, ess, cells, hk, a1, a2, a3, a4, m1, m2, m3, b1, b2, b3, b4⟩ := h
  rw [List.take_length] at b3
  refine ⟨cur, hk, a1, fun w' cur' hk' hs hcc hch => ?_⟩
  have hgT : ¬ Typed w T g := fun ⟨t, ht, ds, hd⟩ => heT (blk_type hk hd ▸ ht)
  have hcl := b3.1
  have hfl : (xs.filter fun x => !p x).length ≤ xs.length := List.length_filter_le _ _
  refine ⟨_, cells, rfl, ⟨hcl, .inr ⟨g, c, cur', rfl, a2, hk', by omega, hc, by omega, ?_⟩⟩, fun b hb => by cases hb; exact a3, (b3.go (lo' := lo) (hi' := m xs.length) hE (fun b _ _ ht => ?_) (Nat.le_refl _) (Nat.le_refl _)).wide m3⟩
  · apply List.ext_getElem?
    intro k
    rw [List.getElem?_take]
    split
    · rename_i hkl
      have h1 : k < cells.length := by omega
      rw [List.getElem?_eq_getElem h1]
      have h2 := b4 k _ (List.getElem?_eq_getElem h1)
      rw [← hcc k hkl] at h2
      rw [← h2]
      simp
    · rw [List.getElem?_eq_none (by omega)]
  · obtain ⟨t, h1, ds, hd⟩ := id ht
    exact hch.block b hd.lt fun hb => by
      have hb' : b = g := hb
      subst hb'
      exact hgT ht
end
/-- clear(s): the cells of a part of a row become zero. -/
theorem run_clear_row {P : Program} (w : World) (t e' ty te : TypeId) (z : Value) (sz g o n c : Nat) (cur : Array Value) (ht : P.underlying t = some (.slice e')) (hv : ∀ w, (zeroValue e').run P w = .ok z w) (hz : z.cells.size = sz) (h1 : ∀ u ∈ z.cells.toList, u.oneCell' = true) (hk : Blk w g te cur) (hn : 0 < n) (hfit : o + n * sz ≤ cur.size) (hp : 0 < sz) :
    ∃ (w' : World) (cur' : Array Value), (Builtin.clear_ #[t] ty #[.slice (some ⟨g, o, none⟩) n c]).run P w = .ok (.tuple #[]) w' ∧ Blk w' g te cur' ∧ cur'.size = cur.size ∧ (∀ k, k < o → cur'[k]? = cur[k]?) ∧ Chg (fun b => b = g) w w' := by
  have hzl : (Builtin.zeroCells z.cells n).toList.length = n * sz := by simp [Builtin.zeroCells, hz]
  have hz1 : ∀ u ∈ (Builtin.zeroCells z.cells n).toList, u.oneCell' = true := by
    intro u hu
    simp only [Builtin.zeroCells, Array.toList_map, List.mem_map] at hu
    obtain ⟨i, _, rfl⟩ := hu
    have hlt : i % z.cells.size < z.cells.size := Nat.mod_lt _ (by omega)
    rw [getElem!_pos z.cells (i % z.cells.size) hlt]
    exact h1 _ (by simp)
  have hst := run_storeCells_at P g o te (Builtin.zeroCells z.cells n).toList 0 cur w hk (by rw [hzl]; omega) hz1
  refine ⟨_, (cur.toList.take (o + 0) ++ (Builtin.zeroCells z.cells n).toList ++ cur.toList.drop (o + 0 + (Builtin.zeroCells z.cells n).toList.length)).toArray, ?_, setRow_heap w g cur _ te _ hk, ?_, fun k hk' => ?_, ?_⟩
  rotate_left
  · have hcl : cur.toList.length = cur.size := by simp
    simp only [List.size_toArray, List.length_append, List.length_take, List.length_drop, hzl, hcl]
    omega
  · rw [List.getElem?_toArray, List.append_assoc, List.getElem?_append_left (by simp only [List.length_take, Array.length_toList]; omega), List.getElem?_take, if_pos (by omega)]
    simp
  · refine ⟨rfl, rfl, rfl, by simp [World.setRow], fun b hb hne => ?_⟩
    have hne' : ¬ g = b := fun e => hne e.symm
    simp [World.setRow, Array.getElem?_modify, hne']
  · obtain ⟨m, rfl⟩ : ∃ m, n = m + 1 := ⟨n - 1, by omega⟩
    simp [Builtin.clear_, run_underlying ht, hv, hst]
end Go.Proofs.YtpdkgpbfmpekgaaGreatDoor




/- slices.IndexFunc and slices.DeleteFunc on packs and on snapshots. -/
namespace Go.Proofs.YtpdkgpbfmpekgaaGreatDoor
open Go.RowKit

/-- What a closure over a number answers. -/
def Asks (F : Nat) (caps : Array Value) (p : Int → Bool) (Q : World → Prop) : Prop := ∀ (n : Int) (A : Option Addr) (m c : Nat) (w' : World), Q w' → Calls Tryz.prog F (#[.agg #[.int .i64 n, .slice A m c]] ++ caps) w' fun e w'' => e = .returned (.bool (p n)) ∧ Below w'.heap.size w' w''
def IdxAt {α : Type} (xs : List α) (p : α → Bool) (e : Ending) : Prop := (e = .returned (.int .i64 (-1)) ∧ ∀ y ∈ xs, p y = false) ∨ ∃ (i : Nat) (x : α), e = .returned (.int .i64 i) ∧ xs[i]? = some x ∧ p x = true ∧ ∀ y ∈ xs.take i, p y = false
set_option maxRecDepth 100000 in
theorem indexFunc_pk (F : Nat) (caps : Array Value) (p : Int → Bool) (xs : List Pk) (v : Value) (w : World) (lo hi : Nat) (h : RPksL w lo hi xs [v]) (hhi : hi ≤ w.heap.size) (hF : IsFn F) (hf : Asks F caps p fun w' => Below w.heap.size w w') :
    Calls Tryz.prog 125 #[v, .func (.func F) #[] caps] w fun e w' => IdxAt xs (fun x => p x.no) e ∧ Below w.heap.size w w' := by
  obtain ⟨A, c, rfl⟩ := RSl.form h
  obtain ⟨_, hc, hx⟩ := h.len_
  unfold maxLen at hx
  have HF := Lib.hid hf; clear hf
  go_enter Tryz.func125, Tryz.ntmps125
  go_wp2_with fail
  go_loopw [8] (fun ii wr => ∃ k : Nat, k ≤ xs.length ∧ ii = .int .i64 k ∧ (∀ y ∈ xs.take k, p y.no = false) ∧ Below w.heap.size w wr) (fun ii _ => xs.length - (intOf ii).toNat)
  case atStart => exact ⟨0, Nat.zero_le _, rfl, by simp, Below.refl _ _⟩
  case round =>
    obtain ⟨k, hk, rfl, hn, hbr⟩ := hrel
    have HN := Lib.hid hn; clear hn
    by_cases hlt : k < xs.length
    · obtain ⟨x, hxk⟩ := some_of_lt hlt
      obtain ⟨b, off, es, e0, _, hbb, _, ⟨v2, rfl, hgd, hr⟩, hcc⟩ := (RPksL.loc.below h hbr hhi).at_ hxk
      subst e0
      obtain ⟨A2, c2, rfl⟩ := RSl.form hr
      have hc0 : wr.cell? ⟨b, off + k * 2, none⟩ = some (.int .i64 x.no) := by simpa using hcc 0 _ rfl
      have hc1 : wr.cell? ⟨b, off + k * 2 + 1, none⟩ = some (.slice A2 x.its.length c2) := by simpa using hcc 1 _ rfl
      have HX := Lib.hid hxk; clear hxk hcc hr
      have hcall := hF (#[.agg #[.int .i64 x.no, .slice A2 x.its.length c2]] ++ caps) wr
      cases hp : p x.no
      · have HP := Lib.hid hp; clear hp
        go_wp2_with fail
        refine (HF.out x.no A2 x.its.length c2 wr hbr).mono ?_
        rintro e w' ⟨rfl, b1⟩
        rw [HP.out]
        clear hcall hc0 hc1
        go_wp2_with fail
        go_roundw
        case rel =>
          refine ⟨k + 1, by omega, by go_num, fun y hy => ?_, below_below hbr b1⟩
          rw [take_succ HX.out, List.mem_append] at hy
          rcases hy with hy | hy
          · exact HN.out y hy
          · rw [List.mem_singleton.1 hy]; exact HP.out
        case measure => simp [intOf]; omega
      · have HP := Lib.hid hp; clear hp
        go_wp2_with fail
        refine (HF.out x.no A2 x.its.length c2 wr hbr).mono ?_
        rintro e w' ⟨rfl, b1⟩
        rw [HP.out]
        clear hcall hc0 hc1
        go_wp2_with fail
        go_ret
        exact ⟨.inr ⟨k, x, rfl, HX.out, HP.out, HN.out⟩, below_below hbr b1⟩
    · obtain rfl : k = xs.length := by omega
      rw [List.take_length] at HN
      go_wp2_with fail
      go_ret
      exact ⟨.inl ⟨rfl, HN.out⟩, hbr⟩
set_option maxRecDepth 100000 in
theorem indexFunc_sn (F : Nat) (caps : Array Value) (p : Int → Bool) (xs : List Sn) (v : Value) (w : World) (lo hi : Nat) (h : RSnsL w lo hi xs [v]) (hhi : hi ≤ w.heap.size) (hF : IsFn F) (hf : Asks F caps p fun w' => Below w.heap.size w w') :
    Calls Tryz.prog 92 #[v, .func (.func F) #[] caps] w fun e w' => IdxAt xs (fun x => p x.no) e ∧ Below w.heap.size w w' := by
  obtain ⟨A, c, rfl⟩ := RSl.form h
  obtain ⟨_, hc, hx⟩ := h.len_
  unfold maxLen at hx
  have HF := Lib.hid hf; clear hf
  go_enter Tryz.func92, Tryz.ntmps92
  go_wp2_with fail
  go_loopw [8] (fun ii wr => ∃ k : Nat, k ≤ xs.length ∧ ii = .int .i64 k ∧ (∀ y ∈ xs.take k, p y.no = false) ∧ Below w.heap.size w wr) (fun ii _ => xs.length - (intOf ii).toNat)
  case atStart => exact ⟨0, Nat.zero_le _, rfl, by simp, Below.refl _ _⟩
  case round =>
    obtain ⟨k, hk, rfl, hn, hbr⟩ := hrel
    have HN := Lib.hid hn; clear hn
    by_cases hlt : k < xs.length
    · obtain ⟨x, hxk⟩ := some_of_lt hlt
      obtain ⟨b, off, es, e0, _, hbb, _, ⟨v2, rfl, hgd, hr⟩, hcc⟩ := (RSnsL.loc.below h hbr hhi).at_ hxk
      subst e0
      obtain ⟨A2, c2, rfl⟩ := RSl.form hr
      have hc0 : wr.cell? ⟨b, off + k * 2, none⟩ = some (.int .i64 x.no) := by simpa using hcc 0 _ rfl
      have hc1 : wr.cell? ⟨b, off + k * 2 + 1, none⟩ = some (.slice A2 x.all.length c2) := by simpa using hcc 1 _ rfl
      have HX := Lib.hid hxk; clear hxk hcc hr
      have hcall := hF (#[.agg #[.int .i64 x.no, .slice A2 x.all.length c2]] ++ caps) wr
      cases hp : p x.no
      · have HP := Lib.hid hp; clear hp
        go_wp2_with fail
        refine (HF.out x.no A2 x.all.length c2 wr hbr).mono ?_
        rintro e w' ⟨rfl, b1⟩
        rw [HP.out]
        clear hcall hc0 hc1
        go_wp2_with fail
        go_roundw
        case rel =>
          refine ⟨k + 1, by omega, by go_num, fun y hy => ?_, below_below hbr b1⟩
          rw [take_succ HX.out, List.mem_append] at hy
          rcases hy with hy | hy
          · exact HN.out y hy
          · rw [List.mem_singleton.1 hy]; exact HP.out
        case measure => simp [intOf]; omega
      · have HP := Lib.hid hp; clear hp
        go_wp2_with fail
        refine (HF.out x.no A2 x.all.length c2 wr hbr).mono ?_
        rintro e w' ⟨rfl, b1⟩
        rw [HP.out]
        clear hcall hc0 hc1
        go_wp2_with fail
        go_ret
        exact ⟨.inr ⟨k, x, rfl, HX.out, HP.out, HN.out⟩, below_below hbr b1⟩
    · obtain rfl : k = xs.length := by omega
      rw [List.take_length] at HN
      go_wp2_with fail
      go_ret
      exact ⟨.inl ⟨rfl, HN.out⟩, hbr⟩
/-- $1 name, 2 Lean type, 3 owned rows, 4 DeleteFunc, 5 field, 6 Go type, 7 the element's TLoc, 8 indexFunc, 9 zero -/
theorem zero_Pk (w : World) : (zeroValue 40).run Tryz.prog w = .ok (.agg #[.int .i64 0, .slice none 0 0]) w := by
  simp [go_sem]
set_option maxRecDepth 100000 in
set_option maxHeartbeats 4000000 in
theorem deleteFunc_pk (F : Nat) (caps : Array Value) (p : Int → Bool) (xs : List Pk) (v : Value) (w : World) (lo hi : Nat) (h : OPks w lo hi xs [v]) (hhi : hi ≤ w.heap.size) (hF : IsFn F) (hf : Asks F caps p fun w' => Chg (fun b => lo ≤ b ∧ b < hi ∧ Typed w [40] b) w w') :
    Calls Tryz.prog 141 #[v, .func (.func F) #[] caps] w fun e w' => ∃ v', e = .returned v' ∧ OPks w' lo hi (xs.filter fun x => !p x.no) [v'] ∧ Chg (fun b => lo ≤ b ∧ b < hi ∧ Typed w [40] b) w w' := by
  obtain ⟨A, c, rfl⟩ := ORow.form h
  obtain ⟨_, hc, hx⟩ := (OPks.l h).len_
  have hxm := hx
  unfold maxLen at hx
  have HF := Lib.hid hf; clear hf
  go_enter Tryz.func141, Tryz.ntmps141
  go_wp2_with fail
  refine (indexFunc_pk F caps p xs _ w lo hi (OPks.l h) hhi hF (fun n A m c w' hb => HF.out n A m c w' (Chg.of_below hb))).mono ?_
  rintro e w1 ⟨hix, b1⟩
  have hc1 : Chg (fun b => lo ≤ b ∧ b < hi ∧ Typed w [40] b) w w1 := Chg.of_below b1
  have h1 := OPks.tloc.below h b1 hhi
  rcases hix with ⟨rfl, hall⟩ | ⟨i, x0, rfl, hi0, hp0, hall⟩
  · have hfl : xs.filter (fun x => !p x.no) = xs := List.filter_eq_self.2 fun y hy => by have h2 : p y.no = false := hall y hy; rw [h2]; rfl
    have HFL := Lib.hid hfl; clear hfl hall
    go_wp2_with fail
    go_ret
    exact ⟨_, rfl, by rw [HFL.out]; exact h1, hc1⟩
  · have hil := lt_of_some hi0
    obtain ⟨g, c', e, hg1, hg2, hg3, dsg, hgb⟩ := ORow.some_ h1 (by omega)
    simp only [Value.slice.injEq] at e
    obtain ⟨rfl, -, rfl⟩ := e
    have htg : Typed w [40] g := typed_back hc1 (T := [40]) (fun t ht => ht) hg2 hhi (fun hs => hs.2.2) ⟨_, List.mem_cons_self, dsg, hgb⟩
    have d0 := (DelSt.start h1 (fun x => p x.no) (Nat.le_of_lt hil) hall).drop hi0 hp0
    have hf0 : (xs.take (i + 1)).filter (fun x => !p x.no) = xs.take i := by
      rw [filter_drop (p := fun x => p x.no) hi0 hp0]
      exact List.filter_eq_self.2 fun y hy => by have h2 : p y.no = false := hall y hy; rw [h2]; rfl
    have hl0 : ((xs.take (i + 1)).filter fun x => !p x.no).length = i := by rw [hf0, List.length_take]; omega
    have HD0 := Lib.hid d0; have HL0 := Lib.hid hl0
    clear d0 hf0 hl0 hi0 hp0 hall hgb h1
    have hne : ((i : Int) == -1) = false := by rw [beq_eq_false_iff_ne]; omega
    go_wp2_with fail
    go_loopw [5, 6] (fun ii jj wr => ∃ i j : Nat, ii = .int .i64 i ∧ jj = .int .i64 j ∧ i < j ∧ j ≤ xs.length ∧ i = ((xs.take j).filter fun x => !p x.no).length ∧ DelSt 40 OPk wr lo hi g (c * 2) xs (fun x => p x.no) j ∧ Chg (fun b => lo ≤ b ∧ b < hi ∧ Typed w [40] b) w wr) (fun _ jj _ => xs.length - (intOf jj).toNat)
    case atStart => exact ⟨i, i + 1, rfl, by go_num, by omega, by omega, HL0.out.symm, HD0.out, hc1⟩
    case round =>
      clear HD0 HL0 hne hil
      obtain ⟨i, j, rfl, rfl, hij, hj, hie, hd, hcr⟩ := hrel
      have HIE := Lib.hid hie; clear hie
      have hsr := hcr.size
      by_cases hlt : j < xs.length
      · obtain ⟨x, hxk⟩ := some_of_lt hlt
        obtain ⟨m, m', es, hm, hel, ⟨v2, rfl, hgd, hr⟩, hcc, -⟩ := DelSt.at_ OPk.tloc (by decide) hd hxk
        obtain ⟨A2, c2, rfl⟩ := ORow.form hr
        have hc0 : wr.cell? ⟨g, j * 2, none⟩ = some (.int .i64 x.no) := hcc 0 _ rfl
        have hc1' : wr.cell? ⟨g, j * 2 + 1, none⟩ = some (.slice A2 x.its.length c2) := hcc 1 _ rfl
        have HX := Lib.hid hxk
        clear hxk hcc hr
        have ba := below_alloc wr (.cells #[.int .i64 x.no, .slice A2 x.its.length c2] 40)
        have hcall := hF (#[.agg #[.int .i64 x.no, .slice A2 x.its.length c2]] ++ caps) (wr.alloc (.cells #[.int .i64 x.no, .slice A2 x.its.length c2] 40))
        have hca := hcr.alloc (.cells #[.int .i64 x.no, .slice A2 x.its.length c2] 40)
        have kb0 : Blk (wr.alloc (.cells #[.int .i64 x.no, .slice A2 x.its.length c2] 40)) wr.heap.size 40 #[.int .i64 x.no, .slice A2 x.its.length c2] := Blk.new _ _ _
        have HKB := Lib.hid kb0; have HCA := Lib.hid hca; have HBA := Lib.hid ba
        clear ba hca kb0
        go_wp2_with fail
        refine (HF.out x.no A2 x.its.length c2 _ HCA.out).mono ?_
        rintro e w2 ⟨rfl, b2⟩
        have hb2 : Below wr.heap.size wr w2 := below_below HBA.out b2
        have hc2 := hcr.trans (Chg.of_below (S := fun _ => False) hb2) fun _ _ h => h.elim
        have hc1'' := cell_keep hb2 hc1'
        have hd2 := hd.keep OPk.tloc hb2 (by omega) hj
        have kb2 := blk_keep HKB.out b2
        have ckb0 : w2.cell? ⟨wr.heap.size, 0, none⟩ = some (.int .i64 x.no) := kb2.cell 0
        have ckb1 : w2.cell? ⟨wr.heap.size, 1, none⟩ = some (.slice A2 x.its.length c2) := kb2.cell 1
        clear hd hcr hc0 hc1' hcall HKB HCA HBA b2 hb2 kb2
        cases hp : p x.no
        · obtain ⟨m, m', es, hm, hel, ⟨v3, e3, hgd3, hr3⟩, hcc, hup⟩ := DelSt.at_ OPk.tloc (by decide) hd2 HX.out
          obtain ⟨A3, c3, rfl⟩ := ORow.form hr3
          subst e3
          obtain ⟨eA, eC⟩ : A3 = A2 ∧ c3 = c2 := by
            have q1 := (hcc 1 _ rfl).symm.trans hc1''
            simp only [Option.some.injEq, Value.slice.injEq] at q1
            exact ⟨q1.1, q1.2.2⟩
          subst eA eC
          clear hc1''
          have HUP := Lib.hid (hup _ _ i rfl hp HIE.out hij)
          have hie2 : i + 1 = ((xs.take (j + 1)).filter fun x => !p x.no).length := by rw [filter_keep (p := fun x => p x.no) HX.out hp, List.length_append, ← HIE.out]; rfl
          have HIE2 := Lib.hid hie2
          obtain ⟨q0, hq0⟩ := hd2.there (k := i * 2) (by omega)
          obtain ⟨q1, hq1⟩ := hd2.there (k := i * 2 + 1) (by omega)
          have hz0 := hd2.frozen (i * 2)
          have hz1 := hd2.frozen (i * 2 + 1)
          have hc3' := (hc2.setCell (p := ⟨g, i * 2, none⟩) (.inl ⟨hg1, hg2, htg⟩) (.int .i64 x.no)).setCell (p := ⟨g, i * 2 + 1, none⟩) (.inl ⟨hg1, hg2, htg⟩) (.slice A3 x.its.length c3)
          have HC3 := Lib.hid hc3'
          clear hcc hup hr3 hie2 hc3' hd2 hc2
          go_wp2_with fail
          go_roundw
          case rel => exact ⟨i + 1, j + 1, by go_num, by go_num, by omega, by omega, HIE2.out, HUP.out, HC3.out⟩
          case measure => simp [intOf]; omega
        · have hie2 : i = ((xs.take (j + 1)).filter fun x => !p x.no).length := by rw [filter_drop (p := fun x => p x.no) HX.out hp]; exact HIE.out
          have HIE2 := Lib.hid hie2
          have HD3 := Lib.hid (hd2.drop HX.out hp)
          clear hie2 hp hd2 hc1''
          go_wp2_with fail
          go_roundw
          case rel => exact ⟨i, j + 1, rfl, by go_num, by omega, by omega, HIE2.out, HD3.out, hc2⟩
          case measure => simp [intOf]; omega
      · obtain rfl : j = xs.length := by omega
        have hie := HIE.out
        rw [List.take_length] at hie
        obtain ⟨cur, hkc, hsc, hend⟩ := hd.end_ OPk.tloc (by decide) rfl hxm
        have HEND := Lib.hid hend; clear hend
        obtain ⟨w', cur', hrun, hk', hs', hcc', hch'⟩ := run_clear_row wr 23 40 0 40 (.agg #[.int .i64 0, .slice none 0 0]) 2 g (i * 2) (xs.length - i) (c - i) cur Tryz.underlying23 (zero_Pk) rfl (by decide) hkc (by omega) (by omega) (by decide)
        have ho := HEND.out w' cur' hk' (by omega) (fun k hk => hcc' k (by rw [hie]; exact hk)) hch'
        rw [← hie] at ho
        have HO := Lib.hid ho
        have hcw := hcr.trans hch' fun b _ hb => (show b = g from hb) ▸ ⟨hg1, hg2, htg⟩
        clear hie ho hch' hcc' hkc hsc hd hk'
        go_wp2_with fail
        go_ret
        exact ⟨_, rfl, HO.out, hcw⟩
theorem zero_Sn (w : World) : (zeroValue 35).run Tryz.prog w = .ok (.agg #[.int .i64 0, .slice none 0 0]) w := by
  simp [go_sem]
set_option maxRecDepth 100000 in
set_option maxHeartbeats 4000000 in
theorem deleteFunc_sn (F : Nat) (caps : Array Value) (p : Int → Bool) (xs : List Sn) (v : Value) (w : World) (lo hi : Nat) (h : OSns w lo hi xs [v]) (hhi : hi ≤ w.heap.size) (hF : IsFn F) (hf : Asks F caps p fun w' => Chg (fun b => lo ≤ b ∧ b < hi ∧ Typed w [35] b) w w') :
    Calls Tryz.prog 144 #[v, .func (.func F) #[] caps] w fun e w' => ∃ v', e = .returned v' ∧ OSns w' lo hi (xs.filter fun x => !p x.no) [v'] ∧ Chg (fun b => lo ≤ b ∧ b < hi ∧ Typed w [35] b) w w' := by
  obtain ⟨A, c, rfl⟩ := ORow.form h
  obtain ⟨_, hc, hx⟩ := (OSns.l h).len_
  have hxm := hx
  unfold maxLen at hx
  have HF := Lib.hid hf; clear hf
  go_enter Tryz.func144, Tryz.ntmps144
  go_wp2_with fail
  refine (indexFunc_sn F caps p xs _ w lo hi (OSns.l h) hhi hF (fun n A m c w' hb => HF.out n A m c w' (Chg.of_below hb))).mono ?_
  rintro e w1 ⟨hix, b1⟩
  have hc1 : Chg (fun b => lo ≤ b ∧ b < hi ∧ Typed w [35] b) w w1 := Chg.of_below b1
  have h1 := OSns.tloc.below h b1 hhi
  rcases hix with ⟨rfl, hall⟩ | ⟨i, x0, rfl, hi0, hp0, hall⟩
  · have hfl : xs.filter (fun x => !p x.no) = xs := List.filter_eq_self.2 fun y hy => by have h2 : p y.no = false := hall y hy; rw [h2]; rfl
    have HFL := Lib.hid hfl; clear hfl hall
    go_wp2_with fail
    go_ret
    exact ⟨_, rfl, by rw [HFL.out]; exact h1, hc1⟩
  · have hil := lt_of_some hi0
    obtain ⟨g, c', e, hg1, hg2, hg3, dsg, hgb⟩ := ORow.some_ h1 (by omega)
    simp only [Value.slice.injEq] at e
    obtain ⟨rfl, -, rfl⟩ := e
    have htg : Typed w [35] g := typed_back hc1 (T := [35]) (fun t ht => ht) hg2 hhi (fun hs => hs.2.2) ⟨_, List.mem_cons_self, dsg, hgb⟩
    have d0 := (DelSt.start h1 (fun x => p x.no) (Nat.le_of_lt hil) hall).drop hi0 hp0
    have hf0 : (xs.take (i + 1)).filter (fun x => !p x.no) = xs.take i := by
      rw [filter_drop (p := fun x => p x.no) hi0 hp0]
      exact List.filter_eq_self.2 fun y hy => by have h2 : p y.no = false := hall y hy; rw [h2]; rfl
    have hl0 : ((xs.take (i + 1)).filter fun x => !p x.no).length = i := by rw [hf0, List.length_take]; omega
    have HD0 := Lib.hid d0; have HL0 := Lib.hid hl0
    clear d0 hf0 hl0 hi0 hp0 hall hgb h1
    have hne : ((i : Int) == -1) = false := by rw [beq_eq_false_iff_ne]; omega
    go_wp2_with fail
    go_loopw [5, 6] (fun ii jj wr => ∃ i j : Nat, ii = .int .i64 i ∧ jj = .int .i64 j ∧ i < j ∧ j ≤ xs.length ∧ i = ((xs.take j).filter fun x => !p x.no).length ∧ DelSt 35 OSn wr lo hi g (c * 2) xs (fun x => p x.no) j ∧ Chg (fun b => lo ≤ b ∧ b < hi ∧ Typed w [35] b) w wr) (fun _ jj _ => xs.length - (intOf jj).toNat)
    case atStart => exact ⟨i, i + 1, rfl, by go_num, by omega, by omega, HL0.out.symm, HD0.out, hc1⟩
    case round =>
      clear HD0 HL0 hne hil
      obtain ⟨i, j, rfl, rfl, hij, hj, hie, hd, hcr⟩ := hrel
      have HIE := Lib.hid hie; clear hie
      have hsr := hcr.size
      by_cases hlt : j < xs.length
      · obtain ⟨x, hxk⟩ := some_of_lt hlt
        obtain ⟨m, m', es, hm, hel, ⟨v2, rfl, hgd, hr⟩, hcc, -⟩ := DelSt.at_ OSn.tloc (by decide) hd hxk
        obtain ⟨A2, c2, rfl⟩ := ORow.form hr
        have hc0 : wr.cell? ⟨g, j * 2, none⟩ = some (.int .i64 x.no) := hcc 0 _ rfl
        have hc1' : wr.cell? ⟨g, j * 2 + 1, none⟩ = some (.slice A2 x.all.length c2) := hcc 1 _ rfl
        have HX := Lib.hid hxk
        clear hxk hcc hr
        have ba := below_alloc wr (.cells #[.int .i64 x.no, .slice A2 x.all.length c2] 35)
        have hcall := hF (#[.agg #[.int .i64 x.no, .slice A2 x.all.length c2]] ++ caps) (wr.alloc (.cells #[.int .i64 x.no, .slice A2 x.all.length c2] 35))
        have hca := hcr.alloc (.cells #[.int .i64 x.no, .slice A2 x.all.length c2] 35)
        have kb0 : Blk (wr.alloc (.cells #[.int .i64 x.no, .slice A2 x.all.length c2] 35)) wr.heap.size 35 #[.int .i64 x.no, .slice A2 x.all.length c2] := Blk.new _ _ _
        have HKB := Lib.hid kb0; have HCA := Lib.hid hca; have HBA := Lib.hid ba
        clear ba hca kb0
        go_wp2_with fail
        refine (HF.out x.no A2 x.all.length c2 _ HCA.out).mono ?_
        rintro e w2 ⟨rfl, b2⟩
        have hb2 : Below wr.heap.size wr w2 := below_below HBA.out b2
        have hc2 := hcr.trans (Chg.of_below (S := fun _ => False) hb2) fun _ _ h => h.elim
        have hc1'' := cell_keep hb2 hc1'
        have hd2 := hd.keep OSn.tloc hb2 (by omega) hj
        have kb2 := blk_keep HKB.out b2
        have ckb0 : w2.cell? ⟨wr.heap.size, 0, none⟩ = some (.int .i64 x.no) := kb2.cell 0
        have ckb1 : w2.cell? ⟨wr.heap.size, 1, none⟩ = some (.slice A2 x.all.length c2) := kb2.cell 1
        clear hd hcr hc0 hc1' hcall HKB HCA HBA b2 hb2 kb2
        cases hp : p x.no
        · obtain ⟨m, m', es, hm, hel, ⟨v3, e3, hgd3, hr3⟩, hcc, hup⟩ := DelSt.at_ OSn.tloc (by decide) hd2 HX.out
          obtain ⟨A3, c3, rfl⟩ := ORow.form hr3
          subst e3
          obtain ⟨eA, eC⟩ : A3 = A2 ∧ c3 = c2 := by
            have q1 := (hcc 1 _ rfl).symm.trans hc1''
            simp only [Option.some.injEq, Value.slice.injEq] at q1
            exact ⟨q1.1, q1.2.2⟩
          subst eA eC
          clear hc1''
          have HUP := Lib.hid (hup _ _ i rfl hp HIE.out hij)
          have hie2 : i + 1 = ((xs.take (j + 1)).filter fun x => !p x.no).length := by rw [filter_keep (p := fun x => p x.no) HX.out hp, List.length_append, ← HIE.out]; rfl
          have HIE2 := Lib.hid hie2
          obtain ⟨q0, hq0⟩ := hd2.there (k := i * 2) (by omega)
          obtain ⟨q1, hq1⟩ := hd2.there (k := i * 2 + 1) (by omega)
          have hz0 := hd2.frozen (i * 2)
          have hz1 := hd2.frozen (i * 2 + 1)
          have hc3' := (hc2.setCell (p := ⟨g, i * 2, none⟩) (.inl ⟨hg1, hg2, htg⟩) (.int .i64 x.no)).setCell (p := ⟨g, i * 2 + 1, none⟩) (.inl ⟨hg1, hg2, htg⟩) (.slice A3 x.all.length c3)
          have HC3 := Lib.hid hc3'
          clear hcc hup hr3 hie2 hc3' hd2 hc2
          go_wp2_with fail
          go_roundw
          case rel => exact ⟨i + 1, j + 1, by go_num, by go_num, by omega, by omega, HIE2.out, HUP.out, HC3.out⟩
          case measure => simp [intOf]; omega
        · have hie2 : i = ((xs.take (j + 1)).filter fun x => !p x.no).length := by rw [filter_drop (p := fun x => p x.no) HX.out hp]; exact HIE.out
          have HIE2 := Lib.hid hie2
          have HD3 := Lib.hid (hd2.drop HX.out hp)
          clear hie2 hp hd2 hc1''
          go_wp2_with fail
          go_roundw
          case rel => exact ⟨i, j + 1, rfl, by go_num, by omega, by omega, HIE2.out, HD3.out, hc2⟩
          case measure => simp [intOf]; omega
      · obtain rfl : j = xs.length := by omega
        have hie := HIE.out
        rw [List.take_length] at hie
        obtain ⟨cur, hkc, hsc, hend⟩ := hd.end_ OSn.tloc (by decide) rfl hxm
        have HEND := Lib.hid hend; clear hend
        obtain ⟨w', cur', hrun, hk', hs', hcc', hch'⟩ := run_clear_row wr 24 35 0 35 (.agg #[.int .i64 0, .slice none 0 0]) 2 g (i * 2) (xs.length - i) (c - i) cur Tryz.underlying24 (zero_Sn) rfl (by decide) hkc (by omega) (by omega) (by decide)
        have ho := HEND.out w' cur' hk' (by omega) (fun k hk => hcc' k (by rw [hie]; exact hk)) hch'
        rw [← hie] at ho
        have HO := Lib.hid ho
        have hcw := hcr.trans hch' fun b _ hb => (show b = g from hb) ▸ ⟨hg1, hg2, htg⟩
        clear hie ho hch' hcc' hkc hsc hd hk'
        go_wp2_with fail
        go_ret
        exact ⟨_, rfl, HO.out, hcw⟩
end Go.Proofs.YtpdkgpbfmpekgaaGreatDoor

