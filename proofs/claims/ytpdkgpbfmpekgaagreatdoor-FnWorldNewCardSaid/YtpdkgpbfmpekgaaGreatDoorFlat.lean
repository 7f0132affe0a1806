


/- Elements whose cells hold all that they are: rows of them, read and owned. -/
import Derived.Test.YtpdkgpbfmpekgaaGreatDoorPast
import Derived.Laws.OwnMore
namespace Go.Proofs.YtpdkgpbfmpekgaaGreatDoor
open Go.RowKit

/-- How a value of α lies in cells, none of which leads anywhere. -/
structure Flat (α : Type) where
  sz : Nat
  cells : α → List Value
  good : α → Prop
  len : ∀ x, (cells x).length = sz
  one : ∀ x, ∀ u ∈ cells x, u.oneCell' = true
  pos : 0 < sz
def RFlat {α : Type} (F : Flat α) : Rep α := fun _ _ _ x cs => cs = F.cells x ∧ F.good x
section
variable {α : Type} (F : Flat α)
theorem RFlat.loc : Loc (RFlat F) := ⟨fun _ _ _ h => h⟩
def flats (xs : List α) : List Value := xs.flatMap F.cells
theorem flats_append (xs ys : List α) : flats F (xs ++ ys) = flats F xs ++ flats F ys := List.flatMap_append
theorem flats_one' (x : α) : flats F [x] = F.cells x := by simp [flats]
theorem flats_len : ∀ xs : List α, (flats F xs).length = xs.length * F.sz
  | [] => by simp [flats]
  | x :: xs => by
    show (F.cells x ++ flats F xs).length = _
    rw [List.length_append, flats_len xs, F.len, List.length_cons, Nat.succ_mul, Nat.add_comm]
theorem flats_get : ∀ (xs : List α) (i j : Nat) (x : α) (u : Value), xs[i]? = some x → (F.cells x)[j]? = some u → (flats F xs)[i * F.sz + j]? = some u
  | [], i, j, x, u, h, _ => by simp at h
  | g :: xs, i, j, x, u, h, hj => by
    have hlt := lt_of_some hj
    rw [F.len] at hlt
    show (F.cells g ++ flats F xs)[i * F.sz + j]? = some u
    cases i with
    | zero =>
      simp at h
      subst h
      rw [List.getElem?_append_left (by rw [F.len, Nat.zero_mul, Nat.zero_add]; exact hlt), Nat.zero_mul, Nat.zero_add]
      exact hj
    | succ i =>
      have e : (i + 1) * F.sz + j = F.sz + (i * F.sz + j) := by rw [Nat.succ_mul]; omega
      rw [e, List.getElem?_append_right (by rw [F.len]; omega), F.len, Nat.add_sub_cancel_left]
      exact flats_get xs i j x u (by simpa using h) hj
theorem flats_inv {xs : List α} {j : Nat} {u : Value} (h : (flats F xs)[j]? = some u) : ∃ x, xs[j / F.sz]? = some x ∧ (F.cells x)[j % F.sz]? = some u := by
  have hlt := lt_of_some h
  rw [flats_len] at hlt
  have hi : j / F.sz < xs.length := Nat.div_lt_of_lt_mul (by rw [Nat.mul_comm]; exact hlt)
  refine ⟨xs[j / F.sz], List.getElem?_eq_getElem hi, ?_⟩
  have hm : j % F.sz < (F.cells xs[j / F.sz]).length := by rw [F.len]; exact Nat.mod_lt _ F.pos
  have h1 := flats_get F xs (j / F.sz) (j % F.sz) xs[j / F.sz] _ (List.getElem?_eq_getElem hi) (List.getElem?_eq_getElem hm)
  rw [Nat.div_add_mod'] at h1
  rw [List.getElem?_eq_getElem hm, ← h1, h]
theorem flats_one (xs : List α) : ∀ u ∈ flats F xs, u.oneCell' = true := by
  intro u hu
  obtain ⟨g, _, hg⟩ := List.mem_flatMap.1 hu
  exact F.one g u hg
/-- A row of such that a call owns. -/
def OwnF (e : TypeId) (w : World) (base : Nat) (v : Value) (xs : List α) : Prop := w.ownsRow base e F.sz v xs.length (flats F xs)
variable {F}
theorem OwnF.sl {e : TypeId} {w : World} {base hi : Nat} {v : Value} {xs : List α} (h : OwnF F e w base v xs) (hg : ∀ x ∈ xs, F.good x) (hhi : w.heap.size ≤ hi) : RSl (RFlat F) F.sz w base hi xs [v] :=
  own_sl h hhi fun i x hi => ⟨F.cells x, F.len x, ⟨rfl, hg x (List.mem_of_getElem? hi)⟩, fun _ _ hu => flats_get F xs i _ x _ hi hu⟩
theorem own_base {w : World} {base base' : Nat} {e : TypeId} {sz n : Nat} {v : Value} {cells : List Value} (h : w.ownsRow base e sz v n cells) (hb : base' ≤ base) : w.ownsRow base' e sz v n cells := by
  refine ⟨h.1, ?_⟩
  rcases h.2 with hn | ⟨g, cap, cur, rfl, hbg, rest⟩
  · exact .inl hn
  · exact .inr ⟨g, cap, cur, rfl, Nat.le_trans hb hbg, rest⟩
theorem OwnF.base {e : TypeId} {w : World} {base base' : Nat} {v : Value} {xs : List α} (h : OwnF F e w base v xs) (hb : base' ≤ base) : OwnF F e w base' v xs := own_base h hb
theorem OwnF.nil (e : TypeId) (w : World) (base : Nat) : OwnF F e w base (.slice none 0 0) [] := World.ownsRow_nil _ _ _ _
theorem OwnF.lit0 {e : TypeId} {w : World} {base : Nat} {v : Value} (h : Lit0 base e v w) : OwnF F e w base v [] := h.own F.sz
theorem OwnF.below {e : TypeId} {w w' : World} {base : Nat} {v : Value} {xs : List α} (h : OwnF F e w base v xs) (hb : Below w.heap.size w w') : OwnF F e w' base v xs := own_below' h hb
theorem OwnF.chg {e : TypeId} {w w' : World} {base : Nat} {v : Value} {xs : List α} {S : Nat → Prop} (h : OwnF F e w base v xs) (hc : Chg S w w') (hS : ∀ b, v.ownBlock = some b → ¬ S b) : OwnF F e w' base v xs := own_chg h hc hS
theorem OwnF.at_ {e : TypeId} {w : World} {base : Nat} {v : Value} {xs : List α} (h : OwnF F e w base v xs) {g : Nat} (hg : v.ownBlock = some g) : base ≤ g ∧ g < w.heap.size := h.lt g hg
theorem OwnF.set_ {e : TypeId} {w : World} {base : Nat} {v : Value} {xs : List α} (h : OwnF F e w base v xs) {p : Addr} (u : Value) (hp : p.block < base) : OwnF F e (w.setCell p u) base v xs :=
  h.chg (S := fun b => b = p.block) ((Chg.refl (fun b => b = p.block) w).setCell (p := p) (.inl rfl) u) fun b hb e => by have := h.at_ hb; omega
theorem own_apart {w : World} {base base' : Nat} {e e' : TypeId} {sz sz' n n' : Nat} {v v' : Value} {cs cs' : List Value} (h : w.ownsRow base e sz v n cs) (h' : w.ownsRow base' e' sz' v' n' cs') (he : e ≠ e') : ∀ b, v.ownBlock = some b → v'.ownBlock ≠ some b := by
  intro b hb hb'
  rcases h.2 with ⟨rfl, _⟩ | ⟨g, cap, cur, rfl, _, hg, _⟩
  · simp [Value.ownBlock] at hb
  · rcases h'.2 with ⟨rfl, _⟩ | ⟨g', cap', cur', rfl, _, hg', _⟩
    · simp [Value.ownBlock] at hb'
    · simp [Value.ownBlock] at hb hb'
      rw [hb] at hg
      rw [hb', hg] at hg'
      simp at hg'
      exact he hg'.2
theorem OwnF.set_ne {e : TypeId} {w : World} {base : Nat} {v : Value} {xs : List α} (h : OwnF F e w base v xs) {p : Addr} (u : Value) (hp : ∀ b, v.ownBlock = some b → b ≠ p.block) : OwnF F e (w.setCell p u) base v xs :=
  h.chg (S := fun b => b = p.block) ((Chg.refl (fun b => b = p.block) w).setCell (p := p) (.inl rfl) u) hp
theorem OwnF.drewN {e : TypeId} {w : World} {base : Nat} {v : Value} {xs : List α} (h : OwnF F e w base v xs) (n : Nat) : OwnF F e (w.drewN n) base v xs := h
theorem OwnF.form {e : TypeId} {w : World} {base : Nat} {v : Value} {xs : List α} (h : OwnF F e w base v xs) : ∃ A c, v = .slice A xs.length c := own_form h
theorem flats_set : ∀ (xs : List α) (i j : Nat) (x y : α) (u : Value), xs[i]? = some x → j < F.sz → F.cells y = (F.cells x).set j u → flats F (xs.set i y) = (flats F xs).set (i * F.sz + j) u
  | [], i, j, x, y, u, h, _, _ => by simp at h
  | z :: xs, 0, j, x, y, u, h, hj, hy => by
    simp at h
    subst h
    show F.cells y ++ flats F xs = (F.cells z ++ flats F xs).set (0 * F.sz + j) u
    rw [Nat.zero_mul, Nat.zero_add, List.set_append_left _ _ (by rw [F.len]; exact hj), hy]
  | z :: xs, i + 1, j, x, y, u, h, hj, hy => by
    show F.cells z ++ flats F (xs.set i y) = (F.cells z ++ flats F xs).set ((i + 1) * F.sz + j) u
    have e : (i + 1) * F.sz + j = F.sz + (i * F.sz + j) := by rw [Nat.succ_mul]; omega
    rw [e, List.set_append_right _ _ (by rw [F.len]; omega), F.len, Nat.add_sub_cancel_left, flats_set xs i j x y u (by simpa using h) hj hy]
/-- A cell of an element is written. -/
theorem OwnF.put {e : TypeId} {w : World} {base g cap : Nat} {xs : List α} (h : OwnF F e w base (.slice (some ⟨g, 0, none⟩) xs.length cap) xs) {i j : Nat} {x y : α} {u : Value} (hx : xs[i]? = some x) (hj : j < F.sz) (hy : F.cells y = (F.cells x).set j u) :
    OwnF F e (w.setCell ⟨g, i * F.sz + j, none⟩ u) base (.slice (some ⟨g, 0, none⟩) xs.length cap) (xs.set i y) := by
  unfold OwnF
  rw [flats_set xs i j x y u hx hj hy, List.length_set]
  exact (h.stored _ u).1
theorem OwnF.cell {e : TypeId} {w : World} {base g cap : Nat} {xs : List α} (h : OwnF F e w base (.slice (some ⟨g, 0, none⟩) xs.length cap) xs) {i j : Nat} {x : α} {u : Value} (hx : xs[i]? = some x) (hu : (F.cells x)[j]? = some u) : w.cell? ⟨g, i * F.sz + j, none⟩ = some u := by
  have hj := lt_of_some hu
  rw [F.len] at hj
  have hi := lt_of_some hx
  have hb : (i + 1) * F.sz ≤ xs.length * F.sz := Nat.mul_le_mul_right _ hi
  rw [Nat.succ_mul] at hb
  rw [h.cellAt _ (by omega)]
  exact flats_get F xs i j x u hx hu
theorem OwnF.frozen {e : TypeId} {w : World} {base g cap n : Nat} {xs : List α} (h : OwnF F e w base (.slice (some ⟨g, 0, none⟩) n cap) xs) (hn : n = xs.length) (j : Nat) : w.frozen? ⟨g, j, none⟩ = false := by
  subst hn; exact h.frozenAt j
theorem OwnF.some_ {e : TypeId} {w : World} {base : Nat} {v : Value} {xs : List α} (h : OwnF F e w base v xs) (hp : 0 < xs.length) : ∃ g c, v = .slice (some ⟨g, 0, none⟩) xs.length c := by
  rcases h.2 with ⟨_, h0⟩ | ⟨g, cap, cur, rfl, _⟩
  · omega
  · exact ⟨g, cap, rfl⟩
/-- The cells of a slice, where it lies. -/
theorem src_flat {w : World} {lo hi : Nat} {xs : List α} {A : Option Addr} {n c : Nat} (h : RSl (RFlat F) F.sz w lo hi xs [.slice A n c]) (hhi : hi ≤ w.heap.size) :
    0 < xs.length → ∃ a, A = some a ∧ ∀ (j : Nat) (u : Value), (flats F xs)[j]? = some u → ∀ w', Below w.heap.size w w' → w'.cell? (a.add j) = some u := by
  intro hp
  obtain ⟨x, hx⟩ := some_of_lt hp
  obtain ⟨b, off, _, rfl, _⟩ := h.at_ hx
  refine ⟨_, rfl, fun j u hu w' hb => ?_⟩
  obtain ⟨y, hy, hyu⟩ := flats_inv F hu
  obtain ⟨b2, off2, es, hbo, _, _, _, ⟨rfl, _⟩, hc⟩ := h.at_ hy
  simp only [Option.some.injEq, Addr.mk.injEq, and_true] at hbo
  obtain ⟨rfl, rfl⟩ := hbo
  have hadd : (⟨b, off, none⟩ : Addr).add j = ⟨b, off + j, none⟩ := by unfold Addr.add; split <;> simp_all
  rw [hadd]
  have := hc _ _ hyu
  rw [Nat.add_assoc, Nat.div_add_mod'] at this
  exact cell_keep hb this
theorem RSl.good {w : World} {lo hi : Nat} {xs : List α} {cs : List Value} (h : RSl (RFlat F) F.sz w lo hi xs cs) : ∀ x ∈ xs, F.good x := fun x hx => by
  obtain ⟨es, he⟩ := h.all_ x hx
  exact he.2
end

def FInt : Flat Int := ⟨1, fun x => [.int .i64 x], In64, fun _ => rfl, fun x u hu => by rw [List.mem_singleton.1 hu]; rfl, by decide⟩
theorem flats_int (xs : List Int) : flats FInt xs = xs.map (Value.int .i64) := by
  induction xs with
  | nil => rfl
  | cons x xs ih => show Value.int .i64 x :: flats FInt xs = _; rw [ih]; rfl
theorem OwnI_iff {w : World} {base : Nat} {v : Value} {xs : List Int} : OwnI w base v xs ↔ OwnF FInt 3 w base v xs := by
  unfold OwnI OwnF
  rw [flats_int]
  exact Iff.rfl

section
variable {P : Program}
/-- Onto an empty literal: nothing that was there is changed. -/
theorem run_app_lit {w : World} {t ty e : TypeId} {sz bytes : Nat} (hE : Elem P t e sz bytes) {base : Nat} {v : Value} (hlit : Lit0 base e v w)
    {A : Option Addr} {m c : Nat} {news : List Value} (hl : news.length = m * sz) (hA : 0 < m → ∃ a, A = some a ∧ ∀ (j : Nat) (u : Value), news[j]? = some u → w.cell? (a.add j) = some u) (h1 : ∀ u ∈ news, u.oneCell' = true)
    (hn : m ≤ 1099511627776) (hbase : base ≤ w.heap.size) :
    ∃ v' w', (Builtin.append_ #[t, t] ty #[v, .slice A m c]).run P w = .ok v' w' ∧ w'.ownsRow base e sz v' m news ∧ Below w.heap.size w w' := by
  obtain ⟨i, z, hi, hz, hsz, hby, hzs⟩ := hE.info
  have hown := hlit.own sz
  obtain ⟨v1, w1, hr1, hap⟩ := run_app (P := P) (ty := ty) hE hown (c := c) hl hA h1 (by omega) hbase
  have hown1 := hap.own
  rw [Nat.zero_add, List.nil_append] at hown1
  refine ⟨v1, w1, hr1, hown1, ?_⟩
  obtain ⟨g, rfl, hbg, hblk⟩ := hlit
  rcases Nat.eq_zero_or_pos m with h0 | h0
  · subst h0
    have hnil : news = [] := List.eq_nil_of_length_eq_zero (by simpa using hl)
    subst hnil
    have hr2 : (Builtin.append_ #[t, t] ty #[.slice (some ⟨g, 0, none⟩) 0 0, .slice A 0 c]).run P w = .ok (.slice (some ⟨g, 0, none⟩) 0 0) w := by
      cases A <;> simp [Builtin.append_, run_underlying hE.slice, sizeOf, typeInfo, hi, Builtin.lenOf, Builtin.firstCells, storeCells, loadCells, loadCellsFrom]
    rw [hr2] at hr1
    cases hr1
    exact Below.refl _ _
  · obtain ⟨ad, rfl, hcell⟩ := hA h0
    have hbytes : m * bytes ≤ 140737488355328 := Nat.le_trans (Nat.mul_le_mul hn hE.small) (by omega)
    have hr2 := run_append_grow (P := P) w t ty e i z hE.slice hi hz ⟨g, 0, none⟩ 0 0 [] (by simp) (fun j u hu => by simp at hu) ad m c news (by rw [hsz]; exact hl) hcell (by omega) (by omega) (growslice_fits (by omega) (by rw [hby, Nat.zero_add]; exact hbytes))
    rw [hr2] at hr1
    cases hr1
    exact ((Below.refl _ _).drew).alloc (Nat.le_refl _) _
variable {α : Type} {F : Flat α}
/-- append(S{}, xs...): xs lies in what w has. -/
theorem app_copy {w x : World} (hx : Below w.heap.size w x) {ops : Array Oper} {rest : List Oper} {o : Oper} {a : Act} {Qx : Exit → Act → World → Prop} (hgd : o.guard = none) (s y : Operand) (t : TypeId)
    (ho : o.op = .call { callee := .builtin .append, args := #[s, y], argTypes := #[t, t] })
    {e : TypeId} {bytes : Nat} (hE : Elem P t e F.sz bytes) {xs : List α} {A : Option Addr} {c base : Nat} (hb : base ≤ w.heap.size) {v : Value} (hs : a.eval s = v) (hy : a.eval y = .slice A xs.length c) (hlit : Lit0 base e v x)
    (src : 0 < xs.length → ∃ a, A = some a ∧ ∀ (j : Nat) (u : Value), (flats F xs)[j]? = some u → ∀ w', Below w.heap.size w w' → w'.cell? (a.add j) = some u) (hn : xs.length ≤ 1099511627776)
    (h : ∀ v' x', Below x.heap.size x x' → OwnF F e x' base v' xs → wpList P ops Qx rest (a.put o.dst v') x') : wpList P ops Qx (o :: rest) a x := by
  obtain ⟨v', w', hr, hown, hb'⟩ := run_app_lit (P := P) (ty := o.type) hE hlit (c := c) (flats_len F xs) (fun hp => by
    obtain ⟨ad, hA, hc⟩ := src hp
    exact ⟨ad, hA, fun j u hu => hc j u hu _ hx⟩) (flats_one F xs) hn (Nat.le_trans hb hx.size)
  refine wpList_plain hgd fun K hK => ?_
  unfold Oper.wp execOp
  simp only [ho, resolve, invoke, builtin, Sem.run_bind, Sem.run_pure, Result.andThen_ok, List.map_toArray, List.map_cons, List.map_nil, hs, hy, hr]
  exact hK _ _ (h v' w' hb' hown)
theorem tab_copy {w : World} {x : Past w} {ops : Array Oper} {o : Oper} {a : Act} {Qx : Exit → Act → World → Prop} (hgd : o.guard = none) (s y : Operand) (t : TypeId)
    (ho : o.op = .call { callee := .builtin .append, args := #[s, y], argTypes := #[t, t] })
    {e : TypeId} {bytes : Nat} (hE : Elem P t e F.sz bytes) {xs : List α} {A : Option Addr} {c base : Nat} (hb : base ≤ w.heap.size) {v : Value} (hs : a.eval s = v) (hy : a.eval y = .slice A xs.length c) (hlit : Lit0 base e v x.to)
    (src : 0 < xs.length → ∃ a, A = some a ∧ ∀ (j : Nat) (u : Value), (flats F xs)[j]? = some u → ∀ w', Below w.heap.size w w' → w'.cell? (a.add j) = some u) (hn : xs.length ≤ 1099511627776)
    (h : ∀ v' (x' : Past w), Past.le x x' → OwnF F e x'.to base v' xs → Qx .normal (a.put o.dst v') x'.to) : wpList P ops Qx [o] a x.to :=
  app_copy x.ok hgd s y t ho hE hb hs hy hlit src hn fun v' x' hle ho => h v' (x.mk' hle) hle ho
/-- append(out, y). -/
theorem app_flat {w : World} {ops : Array Oper} {rest : List Oper} {o : Oper} {a : Act} {Q : Exit → Act → World → Prop} (hgd : o.guard = none) (s x : Operand) (t : TypeId)
    (ho : o.op = .call { callee := .builtin .append, args := #[s, x], argTypes := #[t, t] })
    {e : TypeId} {bytes : Nat} (hE : Elem P t e F.sz bytes) {base : Nat} {v : Value} {xs : List α} (y : α) (hs : a.eval s = v) (hown : OwnF F e w base v xs) {es : Array Value} {T : TypeId} (hx : a.eval x = .slice (some ⟨w.heap.size, 0, none⟩) 1 1) (hes : es.toList = F.cells y)
    (hn : xs.length ≤ 1099511627775) (hbase : base ≤ w.heap.size)
    (h : ∀ v' w', OwnF F e w' base v' (xs ++ [y]) → Chg (fun b => v.ownBlock = some b) w w' → (∀ b, v'.ownBlock = some b → v.ownBlock = some b ∨ w.heap.size ≤ b) → wpList P ops Q rest (a.put o.dst v') w') :
    wpList P ops Q (o :: rest) a (w.alloc (.cells es T)) :=
  app_one hgd s x t ho hE hs hown hx (by rw [← Array.length_toList, hes, F.len]) (by rw [hes]; exact F.one y) hn hbase fun v' w' h2 => h v' w' (by
    have h3 := h2.own
    unfold OwnF
    rw [flats_append, flats_one', List.length_append]
    rw [hes] at h3
    exact h3) h2.chg h2.at_
/-- append(out, y): the one element lies in a block that is known. -/
theorem app_flatB {w : World} {ops : Array Oper} {rest : List Oper} {o : Oper} {a : Act} {Q : Exit → Act → World → Prop} (hgd : o.guard = none) (s x : Operand) (t : TypeId)
    (ho : o.op = .call { callee := .builtin .append, args := #[s, x], argTypes := #[t, t] })
    {e : TypeId} {bytes : Nat} (hE : Elem P t e F.sz bytes) {base : Nat} {v : Value} {xs : List α} (y : α) (hs : a.eval s = v) (hown : OwnF F e w base v xs) {g : Nat} {es : Array Value} {T : TypeId} (hx : a.eval x = .slice (some ⟨g, 0, none⟩) 1 1) (hk : Blk w g T es) (hes : es.toList = F.cells y)
    (hn : xs.length ≤ 1099511627775) (hbase : base ≤ w.heap.size)
    (h : ∀ v' w', OwnF F e w' base v' (xs ++ [y]) → Chg (fun b => v.ownBlock = some b) w w' → (∀ b, v'.ownBlock = some b → v.ownBlock = some b ∨ w.heap.size ≤ b) → wpList P ops Q rest (a.put o.dst v') w') :
    wpList P ops Q (o :: rest) a w :=
  app_many hgd s x t ho hE hs hown hx (news := F.cells y) (by rw [F.len, Nat.one_mul]) (fun _ => ⟨_, rfl, fun j u hu => by
    have hadd : (⟨g, 0, none⟩ : Addr).add j = ⟨g, j, none⟩ := by unfold Addr.add; split <;> simp_all
    rw [hadd, hk.cell, ← Array.getElem?_toList, hes]; exact hu⟩) (F.one y) (by omega) hbase fun v' w' h2 => h v' w' (by
    have h3 := h2.own
    unfold OwnF
    rw [flats_append, flats_one', List.length_append]
    exact h3) h2.chg h2.at_
end
end Go.Proofs.YtpdkgpbfmpekgaaGreatDoor
