


/- slices.Insert of one grant into a row of grants that the call owns. -/
import Derived.Test.YtdbeclnoaeiaeaaCl
import Derived.Test.YtdbeclnoaeiaeaaMk
import Derived.Laws.CopyOwn
import Derived.Lib.Overlaps
import Derived.Lib.AppendZerosOnto
import Derived.Deep.RegionLaw
import Derived.Laws.NewBlocks
namespace Go.Proofs.Ytdbeclnoaeiaeaa
open Go.RowKit

theorem run_copy_rows {P : Program} {sz : Nat} (w : World) (dT sT ty elem : TypeId) (g o dLen dCap : Nat) (a : Addr) (sLen sCap : Nat) (cur : Array Value) (t : TypeId) (n : Nat) (cs : List Value)
    (hu : P.underlying dT = some (.slice elem)) (hs : (P.info? elem).map (·.size) = some sz)
    (hg : w.heap[g]? = some (.cells cur t (0, 0))) (hn : n = Nat.min sLen dLen) (hl : cs.length = n * sz)
    (hsrc : ∀ j v, cs[j]? = some v → w.cell? (a.add j) = some v) (hfit : o + cs.length ≤ cur.size) (h1 : ∀ v ∈ cs, v.oneCell' = true) :
    (Builtin.copy_ #[dT, sT] ty #[.slice (some ⟨g, o, none⟩) dLen dCap, .slice (some a) sLen sCap]).run P w =
      .ok (goInt n) (w.setRow g (splice cur.toList o cs).toArray) := by
  have hld := run_loadCells_list (P := P) w a cs hsrc
  have hst := run_storeCells_at P g o t cs 0 cur w hg (by simpa using hfit) h1
  cases hq : P.info? elem with
  | none => simp [hq] at hs
  | some i =>
    have hi : i.size = sz := by simpa [hq] using hs
    rw [hl] at hld
    simp [Builtin.copy_, run_underlying hu, Builtin.lenOf, Builtin.firstCells, sizeOf, typeInfo, hq, hi, ← hn, hld, hst, splice]

theorem wp_copy_r {P : Program} (w : World) {o : Oper} {a : Act} {K : Act → World → Prop} {Q : Exit → Act → World → Prop} (d s : Operand) (t t' : TypeId)
    (ho : o.op = .call { callee := .builtin .copy, args := #[d, s], argTypes := #[t, t'] }) (v u : Value) (hd : a.eval d = v) (hs : a.eval s = u) {v' : Value} {w' : World}
    (hr : (Builtin.copy_ #[t, t'] o.type #[v, u]).run P w = .ok v' w') (h : K (a.put o.dst v') w') : o.wp P a w K Q := by
  unfold Oper.wp execOp
  simp only [ho, resolve, invoke, builtin, Sem.run_bind, Sem.run_pure, Result.andThen_ok, List.map_toArray, List.map_cons, List.map_nil, hd, hs, hr]
  exact h
theorem wpList_copy_r {P : Program} (w : World) {ops : Array Oper} {rest : List Oper} {o : Oper} {a : Act} {Q : Exit → Act → World → Prop} (hgd : o.guard = none) (d s : Operand) (t t' : TypeId)
    (ho : o.op = .call { callee := .builtin .copy, args := #[d, s], argTypes := #[t, t'] }) (v u : Value) (hd : a.eval d = v) (hs : a.eval s = u) {v' : Value} {w' : World}
    (hr : (Builtin.copy_ #[t, t'] o.type #[v, u]).run P w = .ok v' w') (h : wpList P ops Q rest (a.put o.dst v') w') : wpList P ops Q (o :: rest) a w :=
  wpList_plain hgd fun _ hK => wp_copy_r w d s t t' ho v u hd hs hr (hK _ _ h)
theorem step_copy_r {P : Program} {ops : Array Oper} {o : Oper} {a : Act} {w : World} {K : Act → World → Prop} {Q : Exit → Act → World → Prop} {E : Prop}
    (hg : o.guard = none) (d x : Operand) (dT sT : TypeId) (hop : o.op = Op.call { callee := Callee.builtin Builtin.copy, args := #[d, x], argTypes := #[dT, sT] })
    (v u : Value) (hd : a.eval d = v) (hx : a.eval x = u) {v' : Value} {w' : World} (hr : (Builtin.copy_ #[dT, sT] o.type #[v, u]).run P w = .ok v' w') (hK : K (a.put o.dst v') w') :
    if Region.wanted o (yielded ops a.tmps) = true then Oper.wp P o a w K Q else E := by
  have hw : Region.wanted o (yielded ops a.tmps) = true := by simp [Region.wanted, hg]
  rw [if_pos hw]
  exact wp_copy_r w d x dT sT hop v u hd hx hr hK

theorem ins_list {α : Type} (L A B Y : List α) (a y : Nat) (hA : A.length = a) (hY : Y.length = y) (h : L.take (a + B.length) = A ++ B) (hl : a + y + B.length ≤ L.length) :
    (splice (splice L (a + y) B) a Y).take (a + y + B.length) = A ++ (Y ++ B) := by
  have hLa : L.take a = A := by
    have h1 : L.take a = (A ++ B).take a := by rw [← h, List.take_take, Nat.min_eq_left (Nat.le_add_right _ _)]
    rw [h1, ← hA, List.take_left]
  have e1 : (splice L (a + y) B).take a = A := by
    unfold splice
    rw [List.take_append_of_le_length (by rw [List.length_take]; omega), List.take_take, Nat.min_eq_left (Nat.le_add_right _ _), hLa]
  have e2 : (splice L (a + y) B).drop (a + y) = B ++ L.drop (a + y + B.length) := by
    unfold splice
    rw [List.drop_append_of_le_length (by rw [List.length_take]; omega), List.drop_of_length_le (by rw [List.length_take]; omega), List.nil_append]
  have e3 : splice (splice L (a + y) B) a Y = A ++ (Y ++ (B ++ L.drop (a + y + B.length))) := by
    show (splice L (a + y) B).take a ++ (Y ++ (splice L (a + y) B).drop (a + Y.length)) = _
    rw [e1, hY, e2]
  rw [e3, ← List.append_assoc, ← List.append_assoc, List.append_assoc A Y B, List.take_append_of_le_length (by simp; omega), List.take_of_length_le (by simp; omega)]
theorem ins_list2 {α : Type} (L A B Y : List α) (a y : Nat) (hA : A.length = a) (hY : Y.length = y) (h : L.take a = A) (hl : a + y + B.length ≤ L.length) :
    (splice (splice L a Y) (a + y) B).take (a + y + B.length) = A ++ (Y ++ B) := by
  have e2 : (splice L a Y).take (a + y) = A ++ Y := by
    show (L.take a ++ (Y ++ _)).take (a + y) = _
    rw [h, ← List.append_assoc, List.take_append_of_le_length (by simp; omega), List.take_of_length_le (by simp; omega)]
  have e3 : splice (splice L a Y) (a + y) B = A ++ Y ++ (B ++ (splice L a Y).drop (a + y + B.length)) := by
    show (splice L a Y).take (a + y) ++ (B ++ (splice L a Y).drop (a + y + B.length)) = _
    rw [e2]
  rw [e3, ← List.append_assoc, List.take_append_of_le_length (by simp; omega), List.take_of_length_le (by simp; omega), List.append_assoc]
theorem Chg.setRow {S : Nat → Prop} {a w : World} (h : Chg S a w) {g : Nat} (hp : S g ∨ a.heap.size ≤ g) (cs : Array Value) : Chg S a (w.setRow g cs) :=
  ⟨h.os, h.tape, h.output, by have := h.size; simpa [World.setRow] using this, fun i hi hs => by
    have hne : i ≠ g := fun e => by subst e; exact hp.elim hs fun hp => by omega
    rw [setRow_other w g i cs hne]; exact h.block i hi hs⟩
/-- What an Insert leaves. -/
def Insed (w : World) (base : Nat) (v : Value) (xs : List Gr) (e : Ending) (w' : World) : Prop :=
  ∃ v', e = .returned v' ∧ OwnF FGr 37 w' base v' xs ∧ Chg (fun b => v.ownBlock = some b) w w' ∧ (∀ b, v'.ownBlock = some b → v.ownBlock = some b ∨ w.heap.size ≤ b)

theorem ins_end (xs : List Gr) (y : Gr) (v : Value) (w : World) (base vb : Nat) (T : TypeId) (es : Array Value) (h : OwnF FGr 37 w base v xs) (hk : Blk w vb T es) (hes : es.toList = FGr.cells y) (hb : base ≤ w.heap.size) (hl : xs.length ≤ 1048576) :
    Calls Try.prog 82 #[v, .int .i64 xs.length, .slice (some ⟨vb, 0, none⟩) 1 1] w (Insed w base v (xs ++ [y])) := by
  rcases h.2 with ⟨hv, h0⟩ | ⟨g, cap, cur, rfl, h1, h2, h3, h4, h5, h6⟩
  · have e : v = .slice none xs.length xs.length := by rw [h0]; exact hv
    subst e
    clear hv h0
    go_enter Try.func82, Try.ntmps82
    go_wp2_with (at_builtin; refine app_flatB (F := FGr) (v := .slice none xs.length xs.length) rfl (.tmp 23) (.tmp 24) 28 rfl elem_gr y rfl h rfl hk hes (by omega) hb ?_; intro v3 w3 o3 ch3 at3; obtain ⟨A3, c3, rfl⟩ := o3.form)
    simp only [List.length_append, List.length_cons, List.length_nil, Nat.zero_add] at o3 at3
    go_ret
    exact ⟨.slice A3 (xs.length + 1) c3, rfl, o3, ch3, at3⟩
  · unfold maxLen at h4
    clear h1 h2 h5 h6
    by_cases hc : cap = xs.length
    · subst hc
      go_enter Try.func82, Try.ntmps82
      go_wp2_with (at_builtin; refine app_flatB (F := FGr) (v := .slice (some ⟨g, 0, none⟩) xs.length xs.length) rfl (.tmp 23) (.tmp 24) 28 rfl elem_gr y rfl h rfl hk hes (by omega) hb ?_; intro v3 w3 o3 ch3 at3; obtain ⟨A3, c3, rfl⟩ := o3.form)
      simp only [List.length_append, List.length_cons, List.length_nil, Nat.zero_add] at o3 at3
      go_ret
      exact ⟨.slice A3 (xs.length + 1) c3, rfl, o3, ch3, at3⟩
    · go_enter Try.func82, Try.ntmps82
      go_wp2_with (at_builtin; refine app_flatB (F := FGr) (v := .slice (some ⟨g, 0, none⟩) xs.length cap) rfl (.tmp 23) (.tmp 24) 28 rfl elem_gr y rfl h rfl hk hes (by omega) hb ?_; intro v3 w3 o3 ch3 at3; obtain ⟨A3, c3, rfl⟩ := o3.form)
      simp only [List.length_append, List.length_cons, List.length_nil, Nat.zero_add] at o3 at3
      go_ret
      exact ⟨.slice A3 (xs.length + 1) c3, rfl, o3, ch3, at3⟩
/-- There is room, and something stands behind. -/
theorem ins_shift (xs : List Gr) (y : Gr) (k : Nat) (hk1 : k < xs.length) (g cap : Nat) (cur : Array Value) (w : World) (base vb : Nat) (T : TypeId) (es : Array Value) (hg : w.heap[g]? = some (.cells cur 37 (0, 0))) (hbg : base ≤ g) (hroom : xs.length + 1 ≤ cap) (hcap : cap ≤ 9223372036854775807) (hsize : cur.size = cap * 3) (hcur : cur.toList.take (xs.length * 3) = flats FGr xs) (hk : Blk w vb T es) (hes : es.toList = FGr.cells y) (hne : vb ≠ g) (hl : xs.length ≤ 1048576) :
    Calls Try.prog 82 #[.slice (some ⟨g, 0, none⟩) xs.length cap, .int .i64 k, .slice (some ⟨vb, 0, none⟩) 1 1] w (Insed w base (.slice (some ⟨g, 0, none⟩) xs.length cap) (xs.take k ++ y :: xs.drop k)) := by
  have hov : ∀ lb cb o, (callFunc 86 #[.slice (some ⟨vb, 0, none⟩) 1 1, .slice (some ⟨g, o, none⟩) lb cb]).run Try.prog w = .ok (.value (.bool false)) w := fun lb cb o => by
    have hkB : cur.size ≠ 0 := by omega
    have hsh1 : w.shape? vb = some (T, es.size) := by unfold World.shape?; rw [hk]
    have hsh2 : w.shape? g = some (37, cur.size) := by unfold World.shape?; rw [hg]
    rw [run_callFunc_extern Try.func86 (by kernel_rfl) (by kernel_rfl) (by kernel_rfl) (e := Extern.SlicesOverlaps.overlaps #[28, 28] #[4]) (by kernel_rfl),
      Lib.run_overlaps_apart w 28 4 37 Try.underlying28 3 (fun w => by kernel_rfl) ⟨vb, 0, none⟩ ⟨g, o, none⟩ 1 1 lb cb hne T 37 es.size cur.size hsh1 hsh2 hkB (hk.frozen 0) (hk.frozen _)]
    rfl
  have hz2 : ((k : Int) == (xs.length : Int)) = false := by rw [beq_eq_false_iff_ne]; omega
  have hz3 : decide ((cap : Int) < (xs.length : Int) + 1) = false := by simp; omega
  have hw1 : IntKind.i64.wrap ((k : Int) + 1) = (k : Int) + 1 := by rw [IntKind.wrap_i64]; omega
  have hb1 : (0 : Int) ≤ (k : Int) + 1 := by omega
  have hin : k ≤ xs.length := by omega
  have htn : ((k : Int) + 1).toNat = k + 1 := by omega
  have hb2 : ¬ (cap = k + 1) := by omega
  have hb3 : (k : Int) ≤ (xs.length : Int) + 1 := by omega
  have hb4 : ¬ (cap = k) := by omega
  have hsz : (Try.prog.info? 37).map (·.size) = some 3 := by kernel_rfl
  have hAl : (flats FGr (xs.take k)).length = k * 3 := by rw [flats_len, List.length_take, Nat.min_eq_left hin]; rfl
  have hBl : (flats FGr (xs.drop k)).length = (xs.length - k) * 3 := by rw [flats_len, List.length_drop]; rfl
  have hAB : flats FGr xs = flats FGr (xs.take k) ++ flats FGr (xs.drop k) := by rw [← flats_append, List.take_append_drop]
  have hYl : (FGr.cells y).length = 3 := FGr.len y
  have hcell : ∀ j v, (flats FGr (xs.drop k))[j]? = some v → w.cell? ⟨g, k * 3 + j, none⟩ = some v := fun j v hj => by
    have hlt := lt_of_some hj
    have e1 : (cur.toList.take (xs.length * 3))[k * 3 + j]? = some v := by rw [hcur, hAB, List.getElem?_append_right (by omega), hAl, Nat.add_sub_cancel_left]; exact hj
    rw [List.getElem?_take_of_lt (by omega)] at e1
    unfold World.cell?
    rw [hg]
    simpa using e1
  have hcp1 : ∀ ty dc sc, (Builtin.copy_ #[28, 28] ty #[.slice (some ⟨g, (k + 1) * 3, none⟩) (xs.length - k) dc, .slice (some ⟨g, k * 3, none⟩) (xs.length + 1 - k) sc]).run Try.prog w.drew = .ok (goInt (xs.length - k : Nat)) (w.drew.setRow g (splice cur.toList ((k + 1) * 3) (flats FGr (xs.drop k))).toArray) := fun ty dc sc =>
    run_copy_rows w.drew _ _ ty 37 g ((k + 1) * 3) (xs.length - k) dc ⟨g, k * 3, none⟩ (xs.length + 1 - k) sc cur 37 (xs.length - k) (flats FGr (xs.drop k)) Try.underlying28 hsz hg (by simp only [Nat.min_def]; split <;> omega) hBl
      (fun j v hj => by rw [Addr.add_lit]; exact hcell j v hj) (by omega) (flats_one FGr _)
  obtain ⟨W1, hW1⟩ : ∃ W1, W1 = w.drew.setRow g (splice cur.toList ((k + 1) * 3) (flats FGr (xs.drop k))).toArray := ⟨_, rfl⟩
  have hg1 : W1.heap[g]? = some (.cells (splice cur.toList ((k + 1) * 3) (flats FGr (xs.drop k))).toArray 37 (0, 0)) := by rw [hW1]; exact setRow_heap w.drew g cur _ 37 _ hg
  have hv1 : W1.heap[vb]? = w.heap[vb]? := by rw [hW1]; exact setRow_other w.drew g vb _ hne
  have hch : Chg (fun b => b = g) w W1 := by rw [hW1]; exact (Chg.refl (fun b => b = g) w).drew.setRow (g := g) (.inl rfl) _
  have hls := length_splice cur.toList ((k + 1) * 3) (flats FGr (xs.drop k)) (by simp; omega)
  have hcp2 : ∀ ty dc, (Builtin.copy_ #[28, 28] ty #[.slice (some ⟨g, k * 3, none⟩) (xs.length + 1 - k) dc, .slice (some ⟨vb, 0, none⟩) 1 1]).run Try.prog W1 = .ok (goInt 1) (W1.setRow g (splice (splice cur.toList ((k + 1) * 3) (flats FGr (xs.drop k))) (k * 3) (FGr.cells y)).toArray) := fun ty dc =>
    run_copy_rows W1 _ _ ty 37 g (k * 3) (xs.length + 1 - k) dc ⟨vb, 0, none⟩ 1 1 _ 37 1 (FGr.cells y) Try.underlying28 hsz hg1 (by simp only [Nat.min_def]; split <;> omega) (by rw [hYl])
      (fun j v hj => by
        rw [Addr.add_lit, Nat.zero_add]
        unfold World.cell?
        rw [hv1, hk]
        rw [← hes] at hj
        simpa using hj) (by simp [hls]; omega) (FGr.one y)
  rw [← hW1] at hcp1
  have hfin : Insed w base (.slice (some ⟨g, 0, none⟩) xs.length cap) (xs.take k ++ y :: xs.drop k) (.returned (.slice (some ⟨g, 0, none⟩) (xs.length + 1) cap)) (W1.setRow g (splice (splice cur.toList ((k + 1) * 3) (flats FGr (xs.drop k))) (k * 3) (FGr.cells y)).toArray) := by
    have hlen : (xs.take k ++ y :: xs.drop k).length = xs.length + 1 := by simp; omega
    have hls2 := length_splice (splice cur.toList ((k + 1) * 3) (flats FGr (xs.drop k))) (k * 3) (FGr.cells y) (by rw [hls]; simp; omega)
    refine ⟨_, rfl, ⟨by rw [flats_len], .inr ⟨g, cap, _, by rw [hlen], hbg, setRow_heap W1 g _ _ 37 _ hg1, by omega, by unfold maxLen; omega, by simp [hls2, hls, hsize]; rfl, ?_⟩⟩, (hch.setRow (g := g) (.inl rfl) _).mono fun i _ e => by rw [e]; rfl, fun b hb => .inl hb⟩
    rw [hlen, flats_append]
    have h2 := ins_list cur.toList (flats FGr (xs.take k)) (flats FGr (xs.drop k)) (FGr.cells y) (k * 3) 3 hAl hYl (by rw [hBl, ← hAB, show k * 3 + (xs.length - k) * 3 = xs.length * 3 by omega, hcur]) (by simp; omega)
    rw [hBl, show k * 3 + 3 = (k + 1) * 3 by omega] at h2
    show List.take ((xs.length + 1) * 3) (splice (splice cur.toList ((k + 1) * 3) (flats FGr (xs.drop k))) (k * 3) (FGr.cells y)) = _
    rw [show (xs.length + 1) * 3 = (k + 1) * 3 + (xs.length - k) * 3 by omega, h2]
    rfl
  have HF := Lib.hid hfin
  clear hfin hls hch hv1 hg1 hcell hAB hAl hBl hYl hW1 hcur hes hsize hsz
  go_enter Try.func82, Try.ntmps82
  go_wp2_with (simp only [hov])
  go_region_law (refine step_copy_r rfl _ _ 28 28 rfl _ _ (by simp [Act.eval, Act.put]) (by simp [Act.eval, Act.put]) (hcp1 _ _ _) ?_)
  go_wp2_with (at_builtin; refine wpList_copy_r _ rfl _ _ 28 28 rfl _ _ rfl rfl (hcp2 _ _) ?_)
  go_ret
  exact HF.out
/-- There is no room, and something stands behind: a new row. -/
theorem ins_grow (xs : List Gr) (y : Gr) (k : Nat) (hk1 : k < xs.length) (g cap : Nat) (cur : Array Value) (w : World) (base vb : Nat) (T : TypeId) (es : Array Value) (hg : w.heap[g]? = some (.cells cur 37 (0, 0))) (hbg : base ≤ w.heap.size) (hroom : cap < xs.length + 1) (hnc : xs.length ≤ cap) (hsize : cur.size = cap * 3) (hcur : cur.toList.take (xs.length * 3) = flats FGr xs) (hk : Blk w vb T es) (hes : es.toList = FGr.cells y) (hl : xs.length ≤ 1048576) :
    Calls Try.prog 82 #[.slice (some ⟨g, 0, none⟩) xs.length cap, .int .i64 k, .slice (some ⟨vb, 0, none⟩) 1 1] w (Insed w base (.slice (some ⟨g, 0, none⟩) xs.length cap) (xs.take k ++ y :: xs.drop k)) := by
  obtain rfl : cap = xs.length := by omega
  clear hroom hnc
  have hz2 : ((k : Int) == (xs.length : Int)) = false := by rw [beq_eq_false_iff_ne]; omega
  have hz3 : decide ((xs.length : Int) < (xs.length : Int) + 1) = true := by simp; omega
  have hw1 : IntKind.i64.wrap ((k : Int) + 1) = (k : Int) + 1 := by rw [IntKind.wrap_i64]; omega
  have hb1 : (0 : Int) ≤ (k : Int) + 1 := by omega
  have hin : k ≤ xs.length := by omega
  have htn : ((k : Int) + 1).toNat = k + 1 := by omega
  have hb3 : (k : Int) ≤ (xs.length : Int) := by omega
  have hb4 : ¬ (xs.length = k) := by omega
  have hsz : (Try.prog.info? 37).map (·.size) = some 3 := by kernel_rfl
  obtain ⟨i0, z0, hi0, hz0, hzs, hzb, hzz⟩ := elem_gr.info
  have hAl : (flats FGr (xs.take k)).length = k * 3 := by rw [flats_len, List.length_take, Nat.min_eq_left hin]; rfl
  have hBl : (flats FGr (xs.drop k)).length = (xs.length - k) * 3 := by rw [flats_len, List.length_drop]; rfl
  have hAB : flats FGr xs = flats FGr (xs.take k) ++ flats FGr (xs.drop k) := by rw [← flats_append, List.take_append_drop]
  have hYl : (FGr.cells y).length = 3 := FGr.len y
  have hcell : ∀ j v, (flats FGr xs)[j]? = some v → w.cell? ⟨g, j, none⟩ = some v := fun j v hj => by
    have hlt : j < xs.length * 3 := by
      have := lt_of_some hj
      rw [flats_len] at this
      exact this
    have e1 : (cur.toList.take (xs.length * 3))[j]? = some v := by rw [hcur]; exact hj
    rw [List.getElem?_take_of_lt hlt] at e1
    unfold World.cell?
    rw [hg]
    simpa using e1
  have hold : (Builtin.firstCells i0.size k (.slice (some ⟨g, 0, none⟩) k xs.length)).run Try.prog w.drew = .ok (flats FGr (xs.take k)).toArray w.drew := by
    rw [hzs]
    exact run_firstCells_some w.drew 3 k ⟨g, 0, none⟩ k xs.length _ hAl (fun j v hj => by
      rw [Addr.add_lit, Nat.zero_add]
      exact hcell j v (by rw [hAB, List.getElem?_append_left (lt_of_some hj)]; exact hj))
  have hkk : (xs.length : Int) + 1 - (k : Int) = ((xs.length + 1 - k : Nat) : Int) := by omega
  have hrz : ∀ ty, (Builtin.append_ #[28, 3] ty #[.slice (some ⟨g, 0, none⟩) k xs.length, .int .i64 ((xs.length : Int) + 1 - (k : Int))]).run Try.prog w =
      .ok (.slice (some ⟨w.heap.size, 0, none⟩) (xs.length + 1) (grownCap w (xs.length + 1) xs.length 37)) (w.drew.alloc (.cells ((flats FGr (xs.take k)).toArray ++ Builtin.zeroCells z0.cells (xs.length + 1 - k) ++ Builtin.zeroCells z0.cells (grownCap w (xs.length + 1) xs.length 37 - (xs.length + 1))) 37)) := fun ty => by
    have h := Lib.run_append_grow_zeros w 28 3 ty 37 i0 _ .i64 .i64 Try.underlying28 Try.underlying3 hi0 hz0 (some ⟨g, 0, none⟩) k xs.length (flats FGr (xs.take k)) hold (xs.length + 1 - k) (by omega) (by omega) (by omega) (by omega) (by rw [hzb]; omega) (by rw [hzb, show k + (xs.length + 1 - k) = xs.length + 1 by omega]; exact growslice_fits (by omega) (by omega))
    rw [show k + (xs.length + 1 - k) = xs.length + 1 by omega] at h
    rw [hkk]
    exact h
  obtain ⟨G, hG⟩ : ∃ G, G = grownCap w (xs.length + 1) xs.length 37 := ⟨_, rfl⟩
  have hGn : xs.length + 1 ≤ G := by rw [hG]; exact grownCap_ge w _ _ _
  have hG63 : G ≤ maxLen := by rw [hG]; exact grownCap_le_maxLen w (xs.length + 1) xs.length 37 (by unfold maxLen; omega)
  obtain ⟨ROW, hROW⟩ : ∃ ROW : Array Value, ROW = (flats FGr (xs.take k)).toArray ++ Builtin.zeroCells z0.cells (xs.length + 1 - k) ++ Builtin.zeroCells z0.cells (G - (xs.length + 1)) := ⟨_, rfl⟩
  rw [← hG] at hrz
  rw [← hROW] at hrz
  have hRl : ROW.size = G * 3 := by
    rw [hROW]
    simp [Builtin.zeroCells, hzz, hAl]
    omega
  have hRt : ROW.toList.take (k * 3) = flats FGr (xs.take k) := by
    rw [hROW]
    simp only [Array.toList_append, List.append_assoc]
    rw [← hAl, List.take_left]
  obtain ⟨W1, hW1⟩ : ∃ W1, W1 = w.drew.alloc (.cells ROW 37) := ⟨_, rfl⟩
  rw [← hW1] at hrz
  have hg1 : W1.heap[w.heap.size]? = some (.cells ROW 37 (0, 0)) := by rw [hW1]; exact Blk.new w.drew 37 ROW
  have hgw : g < w.heap.size := (Array.getElem?_eq_some_iff.1 hg).1
  have hvw := hk.lt
  have hch : Chg (fun b => b = w.heap.size) w W1 := by rw [hW1]; exact (Chg.refl (fun b => b = w.heap.size) w).drew.alloc _
  have hv1 : W1.heap[vb]? = w.heap[vb]? := hch.block vb hvw (by omega)
  have hcpA : ∀ ty dc, (Builtin.copy_ #[28, 28] ty #[.slice (some ⟨w.heap.size, k * 3, none⟩) (xs.length + 1 - k) dc, .slice (some ⟨vb, 0, none⟩) 1 1]).run Try.prog W1 = .ok (goInt 1) (W1.setRow w.heap.size (splice ROW.toList (k * 3) (FGr.cells y)).toArray) := fun ty dc =>
    run_copy_rows W1 _ _ ty 37 w.heap.size (k * 3) (xs.length + 1 - k) dc ⟨vb, 0, none⟩ 1 1 _ 37 1 (FGr.cells y) Try.underlying28 hsz hg1 (by simp only [Nat.min_def]; split <;> omega) (by rw [hYl])
      (fun j v hj => by
        rw [Addr.add_lit, Nat.zero_add]
        unfold World.cell?
        rw [hv1, hk]
        rw [← hes] at hj
        simpa using hj) (by omega) (FGr.one y)
  obtain ⟨W2, hW2⟩ : ∃ W2, W2 = W1.setRow w.heap.size (splice ROW.toList (k * 3) (FGr.cells y)).toArray := ⟨_, rfl⟩
  have hg2 : W2.heap[w.heap.size]? = some (.cells (splice ROW.toList (k * 3) (FGr.cells y)).toArray 37 (0, 0)) := by rw [hW2]; exact setRow_heap W1 _ _ _ 37 _ hg1
  have hch2 : Chg (fun b => b = w.heap.size) w W2 := by rw [hW2]; exact hch.setRow (g := w.heap.size) (.inl rfl) _
  rw [← hW2] at hcpA
  have hls := length_splice ROW.toList (k * 3) (FGr.cells y) (by simp; omega)
  have hcpB : ∀ W : World, W.heap = W2.heap → ∀ ty dc sc, (Builtin.copy_ #[28, 28] ty #[.slice (some ⟨w.heap.size, (k + 1) * 3, none⟩) (xs.length - k) dc, .slice (some ⟨g, k * 3, none⟩) (xs.length - k) sc]).run Try.prog W = .ok (goInt (xs.length - k : Nat)) (W.setRow w.heap.size (splice (splice ROW.toList (k * 3) (FGr.cells y)) ((k + 1) * 3) (flats FGr (xs.drop k))).toArray) := fun W hW ty dc sc =>
    run_copy_rows W _ _ ty 37 w.heap.size ((k + 1) * 3) (xs.length - k) dc ⟨g, k * 3, none⟩ (xs.length - k) sc _ 37 (xs.length - k) (flats FGr (xs.drop k)) Try.underlying28 hsz (by rw [hW]; exact hg2) (by simp only [Nat.min_def]; split <;> omega) hBl
      (fun j v hj => by
        rw [Addr.add_lit]
        have h1 := hcell (k * 3 + j) v (by rw [hAB, List.getElem?_append_right (by omega), hAl, Nat.add_sub_cancel_left]; exact hj)
        unfold World.cell? at h1 ⊢
        rw [hW, hch2.block g hgw (by omega)]
        exact h1) (by simp [hls]; omega) (flats_one FGr _)
  have hfin : ∀ W : World, W.heap = W2.heap → W.os = W2.os → W.tape = W2.tape → W.output = W2.output → Insed w base (.slice (some ⟨g, 0, none⟩) xs.length xs.length) (xs.take k ++ y :: xs.drop k) (.returned (.slice (some ⟨w.heap.size, 0, none⟩) (xs.length + 1) G)) (W.setRow w.heap.size (splice (splice ROW.toList (k * 3) (FGr.cells y)) ((k + 1) * 3) (flats FGr (xs.drop k))).toArray) := fun W h1 h2 h3 h4 => by
    have hlen : (xs.take k ++ y :: xs.drop k).length = xs.length + 1 := by simp; omega
    have hls2 := length_splice (splice ROW.toList (k * 3) (FGr.cells y)) ((k + 1) * 3) (flats FGr (xs.drop k)) (by rw [hls]; simp; omega)
    have hchW : Chg (fun b => b = w.heap.size) w W := ⟨h2.trans hch2.os, h3.trans hch2.tape, h4.trans hch2.output, by rw [h1]; exact hch2.size, by rw [h1]; exact hch2.block⟩
    refine ⟨_, rfl, ⟨by rw [flats_len], .inr ⟨w.heap.size, G, _, by rw [hlen], hbg, setRow_heap W w.heap.size _ _ 37 _ (by rw [h1]; exact hg2), by omega, hG63, by simp [hls2, hls, hRl]; rfl, ?_⟩⟩, (hchW.setRow (g := w.heap.size) (.inl rfl) _).mono fun i hi e => by omega, fun b hb => .inr (by simp [Value.ownBlock] at hb; omega)⟩
    rw [hlen, flats_append]
    have h5 := ins_list2 ROW.toList (flats FGr (xs.take k)) (flats FGr (xs.drop k)) (FGr.cells y) (k * 3) 3 hAl hYl hRt (by simp; omega)
    rw [hBl, show k * 3 + 3 = (k + 1) * 3 by omega] at h5
    show List.take ((xs.length + 1) * 3) (splice (splice ROW.toList (k * 3) (FGr.cells y)) ((k + 1) * 3) (flats FGr (xs.drop k))) = _
    rw [show (xs.length + 1) * 3 = (k + 1) * 3 + (xs.length - k) * 3 by omega, h5]
    rfl
  have hcpC := hcpB W2.drew rfl
  have HF := Lib.hid (hfin W2.drew rfl rfl rfl rfl)
  clear hcpB
  have hGi : ¬ (G = k) := by omega
  have hGim : ¬ (G = k + 1) := by omega
  unfold maxLen at hG63
  clear hfin hls hch hv1 hg1 hcell hAB hAl hBl hYl hW1 hcur hes hsize hsz hW2 hg2 hch2 hRl hRt hROW hG hold hzz hzb hzs hz0 hi0 hkk hvw hgw
  go_enter Try.func82, Try.ntmps82
  go_wp2_with (first
    | (at_builtin; refine Lib.wpList_append_run _ rfl _ _ _ _ rfl _ _ rfl rfl _ _ (hrz _) ?_)
    | (at_builtin; refine wpList_copy_r _ rfl _ _ 28 28 rfl _ _ rfl rfl (hcpA _ _) ?_))
  go_region_law (refine step_copy_r rfl _ _ 28 28 rfl _ _ (by simp [Act.eval, Act.put]) (by simp [Act.eval, Act.put]) (hcpC _ _ _) ?_)
  go_wp2_with fail
  go_ret
  exact HF.out
/-- Insert of one grant. -/
theorem ins_any (xs : List Gr) (y : Gr) (k : Nat) (hk1 : k ≤ xs.length) (v : Value) (w : World) (base vb : Nat) (T : TypeId) (es : Array Value) (h : OwnF FGr 37 w base v xs) (hk : Blk w vb T es) (hes : es.toList = FGr.cells y) (hv : v.ownBlock ≠ some vb) (hb : base ≤ w.heap.size) (hl : xs.length ≤ 1048576) :
    Calls Try.prog 82 #[v, .int .i64 k, .slice (some ⟨vb, 0, none⟩) 1 1] w (Insed w base v (xs.take k ++ y :: xs.drop k)) := by
  by_cases he : k = xs.length
  · subst he
    rw [List.take_length, List.drop_length]
    exact ins_end xs y v w base vb T es h hk hes hb hl
  · rcases h.2 with ⟨rfl, h0⟩ | ⟨g, cap, cur, rfl, h1, h2, h3, h4, h5, h6⟩
    · omega
    · unfold maxLen at h4
      by_cases hr : xs.length + 1 ≤ cap
      · exact ins_shift xs y k (by omega) g cap cur w base vb T es h2 h1 hr (by omega) h5 h6 hk hes (fun e => hv (by rw [e]; rfl)) hl
      · exact ins_grow xs y k (by omega) g cap cur w base vb T es h2 hb (by omega) h3 h5 h6 hk hes hl
end Go.Proofs.Ytdbeclnoaeiaeaa
