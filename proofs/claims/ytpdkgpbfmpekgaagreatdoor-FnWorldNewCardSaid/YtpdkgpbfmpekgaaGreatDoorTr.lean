


/- Readings that name the types of the blocks that they lie in; rows of such, owned and appended to. -/
import Derived.Test.YtpdkgpbfmpekgaaGreatDoorFlat
namespace Go.Proofs.YtpdkgpbfmpekgaaGreatDoor
open Go.RowKit

/-- A block of one of these types. -/
def Typed (w : World) (T : List TypeId) (b : Nat) : Prop := ∃ t ∈ T, ∃ ds, Blk w b t ds
/-- A reading hangs on nothing but blocks of these types, from lo on, below hi. -/
structure TLoc {α : Type} (E : Rep α) (T : List TypeId) : Prop where
  go : ∀ {w w' : World} {lo hi lo' hi' : Nat} {x : α} {cs : List Value},
    (∀ b, lo ≤ b → b < hi → Typed w T b → w'.heap[b]? = w.heap[b]?) → lo' ≤ lo → hi ≤ hi' → E w lo hi x cs → E w' lo' hi' x cs
section
variable {α : Type} {E : Rep α} {T : List TypeId}
theorem TLoc.loc (hE : TLoc E T) : Loc E := ⟨fun h h1 h2 he => hE.go (fun b h1 h2 _ => h b h1 h2) h1 h2 he⟩
theorem TLoc.more (hE : TLoc E T) {U : List TypeId} (hU : ∀ t ∈ T, t ∈ U) : TLoc E U := ⟨fun h h1 h2 he => hE.go (fun b h1 h2 ⟨t, ht, hd⟩ => h b h1 h2 ⟨t, hU t ht, hd⟩) h1 h2 he⟩
theorem TLoc.below (hE : TLoc E T) {w w' : World} {lo hi B : Nat} {x : α} {cs : List Value} (h : E w lo hi x cs) (hb : Below B w w') (hB : hi ≤ B) : E w' lo hi x cs := hE.loc.below h hb hB
theorem TLoc.wide (hE : TLoc E T) {w : World} {lo hi lo' hi' : Nat} {x : α} {cs : List Value} (h : E w lo hi x cs) (h1 : lo' ≤ lo) (h2 : hi ≤ hi') : E w lo' hi' x cs := hE.loc.wide h h1 h2
theorem blk_type {w : World} {b : Nat} {t t' : TypeId} {cs ds : Array Value} (h : Blk w b t cs) (h' : Blk w b t' ds) : t = t' := by
  unfold Blk at h h'
  rw [h] at h'
  simp at h'
  exact h'.2
/-- What changes is of other types, or lies elsewhere. -/
theorem TLoc.chg (hE : TLoc E T) {S : Nat → Prop} {w w' : World} {lo hi : Nat} {x : α} {cs : List Value} (h : E w lo hi x cs) (hc : Chg S w w') (hS : ∀ b, lo ≤ b → b < hi → Typed w T b → ¬ S b) : E w' lo hi x cs :=
  hE.go (fun b h1 h2 ht => hc.block b (by obtain ⟨_, _, _, hk⟩ := ht; exact hk.lt) (hS b h1 h2 ht)) (Nat.le_refl _) (Nat.le_refl _) h
theorem RFlat.tloc {α : Type} (F : Flat α) : TLoc (RFlat F) [] := ⟨fun _ _ _ h => h⟩
theorem RInt.tloc : TLoc RInt [] := ⟨fun _ _ _ h => h⟩
theorem RStr.tloc : TLoc RStr [] := ⟨fun _ _ _ h => h⟩
/-- A slice whose block is of type e. -/
def RSlT (e : TypeId) (E : Rep α) (sz : Nat) : Rep (List α) := fun w lo hi xs cs =>
  RSl E sz w lo hi xs cs ∧ (0 < xs.length → ∀ b off n c, cs = [.slice (some ⟨b, off, none⟩) n c] → ∃ ds, Blk w b e ds)
theorem RSlT.tloc (hE : TLoc E T) {e : TypeId} {sz : Nat} : TLoc (RSlT e E sz) (e :: T) := by
  refine ⟨?_⟩
  intro w w' lo hi lo' hi' xs cs hs hlo hhi ⟨⟨A, c, hcs, hc, hm, h⟩, ht⟩
  refine ⟨⟨A, c, hcs, hc, hm, fun hp => ?_⟩, fun hp b off n c' e' => ?_⟩
  · obtain ⟨b, off, rfl, h1, h2, hx⟩ := h hp
    have hb := ht hp b off _ _ hcs
    refine ⟨b, off, rfl, Nat.le_trans hlo h1, Nat.lt_of_lt_of_le h2 hhi, fun i x hi' => ?_⟩
    obtain ⟨es, hl, he, hcell⟩ := hx i x hi'
    exact ⟨es, hl, hE.go (fun b h1 h2 ⟨t, ht, hd⟩ => hs b h1 h2 ⟨t, List.mem_cons_of_mem _ ht, hd⟩) hlo hhi he, fun j u hu => (World.cell?_of_block (hs b h1 h2 ⟨e, List.mem_cons_self, hb⟩)).trans (hcell j u hu)⟩
  · obtain ⟨b2, off2, hA, h1, h2, _⟩ := h hp
    rw [hcs, hA] at e'
    simp only [List.cons.injEq, Value.slice.injEq, Option.some.injEq, Addr.mk.injEq, and_true] at e'
    obtain ⟨⟨rfl, rfl⟩, _, _⟩ := e'
    have hb := ht hp b2 off2 _ _ (hcs.trans (by rw [hA]))
    obtain ⟨ds, hd⟩ := hb
    exact ⟨ds, (hs b2 h1 h2 ⟨e, List.mem_cons_self, ds, hd⟩).trans hd⟩
theorem RSlT.form {e : TypeId} {sz : Nat} {w : World} {lo hi : Nat} {xs : List α} {v : Value} (h : RSlT e E sz w lo hi xs [v]) : ∃ A c, v = .slice A xs.length c := h.1.form
theorem RSlT.nil (e : TypeId) (E : Rep α) (sz : Nat) (w : World) (lo hi : Nat) : RSlT e E sz w lo hi [] [.slice none 0 0] :=
  ⟨⟨none, 0, rfl, Nat.le_refl _, Nat.zero_le _, fun h => absurd h (by simp)⟩, fun h => absurd h (by simp)⟩

/-- A row that a call owns: each element reads, in what lies from lo on. -/
def OwnD (E : Rep α) (sz : Nat) (e : TypeId) (w : World) (lo base : Nat) (v : Value) (xs : List α) : Prop :=
  ∃ cells : List Value, w.ownsRow base e sz v xs.length cells ∧ (∀ u ∈ cells, u.oneCell' = true) ∧
    ∀ i x, xs[i]? = some x → ∃ es : List Value, es.length = sz ∧ E w lo w.heap.size x es ∧ ∀ j u, es[j]? = some u → cells[i * sz + j]? = some u
variable {sz : Nat} {e : TypeId}
theorem OwnD.form {w : World} {lo base : Nat} {v : Value} {xs : List α} (h : OwnD E sz e w lo base v xs) : ∃ A c, v = .slice A xs.length c := by
  obtain ⟨cells, h, _⟩ := h
  exact own_form h
theorem OwnD.at_ {w : World} {lo base : Nat} {v : Value} {xs : List α} (h : OwnD E sz e w lo base v xs) {g : Nat} (hg : v.ownBlock = some g) : base ≤ g ∧ g < w.heap.size := by
  obtain ⟨cells, h, _⟩ := h
  exact h.lt g hg
theorem OwnD.blk {w : World} {lo base : Nat} {v : Value} {xs : List α} (h : OwnD E sz e w lo base v xs) {g : Nat} (hg : v.ownBlock = some g) : ∃ ds, Blk w g e ds := by
  obtain ⟨cells, h, _⟩ := h
  rcases h.2 with ⟨rfl, _⟩ | ⟨g', cap, cur, rfl, _, hk, _⟩
  · cases hg
  · cases hg; exact ⟨_, hk⟩
theorem OwnD.nil (E : Rep α) (sz : Nat) (e : TypeId) (w : World) (lo base : Nat) : OwnD E sz e w lo base (.slice none 0 0) [] := ⟨[], World.ownsRow_nil _ _ _ _, fun _ h => (by cases h), fun i x h => (by simp at h)⟩
theorem OwnD.lit0 {w : World} {lo base : Nat} {v : Value} (h : Lit0 base e v w) : OwnD E sz e w lo base v [] := ⟨[], h.own sz, fun _ h => (by cases h), fun i x h => (by simp at h)⟩
theorem OwnD.base {w : World} {lo base base' : Nat} {v : Value} {xs : List α} (h : OwnD E sz e w lo base v xs) (hb : base' ≤ base) : OwnD E sz e w lo base' v xs := by
  obtain ⟨cells, h1, h2⟩ := h
  exact ⟨cells, own_base h1 hb, h2⟩
theorem OwnD.low (hE : TLoc E T) {w : World} {lo lo' base : Nat} {v : Value} {xs : List α} (h : OwnD E sz e w lo base v xs) (hl : lo' ≤ lo) : OwnD E sz e w lo' base v xs := by
  obtain ⟨cells, h1, h0, h2⟩ := h
  refine ⟨cells, h1, h0, fun i x hi => ?_⟩
  obtain ⟨es, a, b, c⟩ := h2 i x hi
  exact ⟨es, a, hE.wide b hl (Nat.le_refl _), c⟩
theorem OwnD.sl {w : World} {lo base : Nat} {v : Value} {xs : List α} (h : OwnD E sz e w lo base v xs) (hl : lo ≤ base) : RSlT e E sz w lo w.heap.size xs [v] := by
  have hb := fun g hg => h.blk (g := g) hg
  obtain ⟨cells, h1, _, h2⟩ := h
  refine ⟨?_, fun hp b off n c e' => ?_⟩
  · obtain ⟨ha, h3⟩ := h1
    rcases h3 with ⟨rfl, h0⟩ | ⟨g, cap, cur, rfl, hbg, hh, hnc, hcm, hcs, htake⟩
    · exact ⟨none, 0, by rw [h0], by omega, by unfold maxLen; omega, fun hp => by omega⟩
    · refine ⟨_, cap, rfl, hnc, hcm, fun _ => ⟨g, 0, rfl, Nat.le_trans hl hbg, (Array.getElem?_eq_some_iff.1 hh).1, fun i x hi => ?_⟩⟩
      obtain ⟨es, hl, he, hc⟩ := h2 i x hi
      refine ⟨es, hl, he, fun j u hu => ?_⟩
      have hx := hc j u hu
      rw [← htake, List.getElem?_take] at hx
      split at hx
      · rw [cell_of_row w g (0 + i * sz + j) cur _ (0, 0) hh, Nat.zero_add]
        simpa using hx
      · cases hx
  · simp only [List.cons.injEq, and_true] at e'
    subst e'
    rcases h1.2 with ⟨h0, _⟩ | ⟨g, cap, cur, h0, _, hk, _⟩
    · cases h0
    · cases h0; exact ⟨_, hk⟩
theorem OwnD.chg (hE : TLoc E T) {w w' : World} {lo base : Nat} {v : Value} {xs : List α} {S : Nat → Prop} (h : OwnD E sz e w lo base v xs) (hc : Chg S w w') (hS : ∀ b, v.ownBlock = some b → ¬ S b) (hT : ∀ b, lo ≤ b → Typed w T b → ¬ S b) : OwnD E sz e w' lo base v xs := by
  obtain ⟨cells, h1, h0, h2⟩ := h
  refine ⟨cells, own_chg h1 hc hS, h0, fun i x hi => ?_⟩
  obtain ⟨es, a, b, c⟩ := h2 i x hi
  exact ⟨es, a, hE.wide (hE.chg b hc fun b hb _ ht => hT b hb ht) (Nat.le_refl _) hc.size, c⟩
theorem OwnD.below (hE : TLoc E T) {w w' : World} {lo base : Nat} {v : Value} {xs : List α} (h : OwnD E sz e w lo base v xs) (hb : Below w.heap.size w w') : OwnD E sz e w' lo base v xs :=
  h.chg hE (Chg.of_below (S := fun _ => False) hb) (fun _ _ h => h) fun _ _ _ h => h
theorem OwnF.deep {α : Type} {F : Flat α} {e : TypeId} {w : World} {base : Nat} {v : Value} {xs : List α} (h : OwnF F e w base v xs) (hg : ∀ x ∈ xs, F.good x) (lo : Nat) : OwnD (RFlat F) F.sz e w lo base v xs :=
  ⟨_, h, flats_one F xs, fun i x hi => ⟨F.cells x, F.len x, ⟨rfl, hg x (List.mem_of_getElem? hi)⟩, fun _ _ hu => flats_get F xs i _ x _ hi hu⟩⟩
theorem OwnD.flat {F : Flat α} {w : World} {lo base : Nat} {v : Value} {xs : List α} (h : OwnD (RFlat F) F.sz e w lo base v xs) : OwnF F e w base v xs ∧ ∀ x ∈ xs, F.good x := by
  obtain ⟨cells, h1, h0, h2⟩ := h
  have hg : ∀ x ∈ xs, F.good x := fun x hx => by
    obtain ⟨i, hi⟩ := List.getElem?_of_mem hx
    obtain ⟨es, _, hr, _⟩ := h2 i x hi
    exact hr.2
  refine ⟨?_, hg⟩
  have hl : cells.length = xs.length * F.sz := h1.1
  have : cells = flats F xs := by
    apply List.ext_getElem?
    intro k
    rcases Nat.lt_or_ge k (xs.length * F.sz) with hk | hk
    · have hi : k / F.sz < xs.length := Nat.div_lt_of_lt_mul (by rw [Nat.mul_comm]; exact hk)
      have hx := List.getElem?_eq_getElem hi
      obtain ⟨es, hel, ⟨rfl, _⟩, hc⟩ := h2 _ _ hx
      have hm : k % F.sz < (F.cells xs[k / F.sz]).length := by rw [F.len]; exact Nat.mod_lt _ F.pos
      have h3 := hc (k % F.sz) _ (List.getElem?_eq_getElem hm)
      have h4 := flats_get F xs (k / F.sz) (k % F.sz) _ _ hx (List.getElem?_eq_getElem hm)
      rw [Nat.div_add_mod'] at h3 h4
      rw [h3, h4]
    · rw [List.getElem?_eq_none (by omega), List.getElem?_eq_none (by rw [flats_len]; exact hk)]
  rw [this] at h1
  exact h1
end
section
variable {P : Program} {α : Type} {E : Rep α} {T : List TypeId} {sz : Nat} {e : TypeId}
/-- append(out, y): the one element lies in a block g, in cells es. -/
theorem app_deep (hE : TLoc E T) (heT : e ∉ T) {w : World} {ops : Array Oper} {rest : List Oper} {o : Oper} {a : Act} {Q : Exit → Act → World → Prop} (hgd : o.guard = none) (s x : Operand) (t : TypeId)
    (ho : o.op = .call { callee := .builtin .append, args := #[s, x], argTypes := #[t, t] })
    {bytes : Nat} (hEl : Elem P t e sz bytes) {lo base : Nat} {v : Value} {xs : List α} (y : α) (hs : a.eval s = v) (hown : OwnD E sz e w lo base v xs) {es : Array Value} {Ty : TypeId} (hx : a.eval x = .slice (some ⟨w.heap.size, 0, none⟩) 1 1) (hel : es.toList.length = sz) (h1 : ∀ u ∈ es.toList, u.oneCell' = true) (hy : E w lo w.heap.size y es.toList)
    (hn : xs.length ≤ 1099511627775) (hbase : base ≤ w.heap.size)
    (h : ∀ v' w', OwnD E sz e w' lo base v' (xs ++ [y]) → Chg (fun b => v.ownBlock = some b) w w' → (∀ b, v'.ownBlock = some b → v.ownBlock = some b ∨ w.heap.size ≤ b) → wpList P ops Q rest (a.put o.dst v') w') :
    wpList P ops Q (o :: rest) a (w.alloc (.cells es Ty)) := by
  have hob := fun g hg => hown.blk (g := g) hg
  obtain ⟨cells, hown, h0, h2⟩ := hown
  have hcl : cells.length = xs.length * sz := hown.1
  refine app_one hgd s x t ho hEl hs hown hx (by rw [← Array.length_toList, hel]) h1 hn hbase fun v' w' h3 => h v' w' ⟨cells ++ es.toList, ?_, ?_, ?_⟩ h3.chg h3.at_
  · have := h3.own
    rw [List.length_append]; exact this
  · intro u hu
    rcases List.mem_append.1 hu with hu | hu
    · exact h0 u hu
    · exact h1 u hu
  · have hkeep : ∀ {z : α} {zs : List Value}, E w lo w.heap.size z zs → E w' lo w'.heap.size z zs := fun hz =>
      hE.wide (hE.chg hz h3.chg fun b _ _ ⟨t', ht', ds, hd⟩ he => by
        obtain ⟨ds', hd'⟩ := hob b he
        exact heT (blk_type hd' hd ▸ ht')) (Nat.le_refl _) h3.chg.size
    intro i z hi
    rcases Nat.lt_or_ge i xs.length with hlt | hge
    · rw [List.getElem?_append_left hlt] at hi
      obtain ⟨zs, hzl, hz, hzc⟩ := h2 i z hi
      refine ⟨zs, hzl, hkeep hz, fun j u hu => ?_⟩
      have hj := lt_of_some hu
      have hb : (i + 1) * sz ≤ xs.length * sz := Nat.mul_le_mul_right _ hlt
      rw [Nat.succ_mul] at hb
      rw [List.getElem?_append_left (by omega)]
      exact hzc j u hu
    · rw [List.getElem?_append_right hge] at hi
      have : i - xs.length = 0 := by have := lt_of_some hi; simp at this; omega
      rw [this] at hi
      simp at hi
      subst hi
      have hix : i = xs.length := by omega
      refine ⟨es.toList, hel, hkeep hy, fun j u hu => ?_⟩
      rw [hix, List.getElem?_append_right (by omega), hcl, Nat.add_sub_cancel_left]
      exact hu
end
section
variable {α : Type} {E : Rep α}
theorem addr_plain (b o i : Nat) : (⟨b, o, none⟩ : Addr).add i = ⟨b, o + i, none⟩ := by unfold Addr.add; split <;> simp_all
/-- A slice from k on. -/
theorem RSlT.drop_ {e : TypeId} {sz : Nat} {w : World} {lo hi : Nat} {xs : List α} {A : Option Addr} {n c k : Nat} (h : RSlT e E sz w lo hi xs [.slice A n c]) (hk : k ≤ xs.length) : RSlT e E sz w lo hi (xs.drop k) [.slice (if c = k then A else A.map fun x => x.add (k * sz)) (xs.length - k) (c - k)] := by
  obtain ⟨⟨A', c', e0, hc, hm, hx⟩, ht⟩ := h
  simp only [List.cons.injEq, Value.slice.injEq, and_true] at e0
  obtain ⟨rfl, rfl, rfl⟩ := e0
  refine ⟨⟨_, c - k, by rw [List.length_drop], by rw [List.length_drop]; omega, by omega, fun hp => ?_⟩, fun hp b off n' c' e' => ?_⟩
  · rw [List.length_drop] at hp
    have hne : ¬ c = k := by omega
    have hp0 : 0 < xs.length := by omega
    obtain ⟨b, off, rfl, h1, h2, hat⟩ := hx hp0
    refine ⟨b, off + k * sz, by rw [if_neg hne]; simp [Addr.add], h1, h2, fun i x hi => ?_⟩
    rw [List.getElem?_drop] at hi
    obtain ⟨es, h3, h4, h5⟩ := hat _ _ hi
    refine ⟨es, h3, h4, fun j u hj => ?_⟩
    have := h5 j u hj
    rw [← this, Nat.add_mul]
    congr 2
    omega
  · rw [List.length_drop] at hp
    have hne : ¬ c = k := by omega
    have hp0 : 0 < xs.length := by omega
    obtain ⟨b2, off2, rfl, h1, h2, hat⟩ := hx hp0
    rw [if_neg hne] at e'
    simp only [Option.map_some, addr_plain, List.cons.injEq, Value.slice.injEq, Option.some.injEq, Addr.mk.injEq, and_true] at e'
    obtain ⟨⟨rfl, _⟩, _⟩ := e'
    exact ht hp0 b2 off2 _ _ rfl
/-- A slice up to k. -/
theorem RSlT.take_ {e : TypeId} {sz : Nat} {w : World} {lo hi : Nat} {xs : List α} {A : Option Addr} {n c k : Nat} (h : RSlT e E sz w lo hi xs [.slice A n c]) (hk : k ≤ xs.length) : RSlT e E sz w lo hi (xs.take k) [.slice A k c] := by
  obtain ⟨⟨A', c', e0, hc, hm, hx⟩, ht⟩ := h
  simp only [List.cons.injEq, Value.slice.injEq, and_true] at e0
  obtain ⟨rfl, rfl, rfl⟩ := e0
  have hl : (xs.take k).length = k := by rw [List.length_take]; omega
  refine ⟨⟨_, c, by rw [hl], by rw [hl]; omega, hm, fun hp => ?_⟩, fun hp b off n' c' e' => ?_⟩
  · rw [hl] at hp
    obtain ⟨b, off, rfl, h1, h2, hat⟩ := hx (by omega)
    refine ⟨b, off, rfl, h1, h2, fun i x hi => ?_⟩
    rw [List.getElem?_take] at hi
    split at hi
    · exact hat _ _ hi
    · cases hi
  · rw [hl] at hp
    simp only [List.cons.injEq, Value.slice.injEq, and_true] at e'
    obtain ⟨rfl, rfl, rfl⟩ := e'
    exact ht (by omega) b off _ _ rfl
end
theorem own_blk {α : Type} {F : Flat α} {e : TypeId} {w : World} {g n base : Nat} {xs : List α} {cs : Array Value} (hk : Blk w g e cs) (hcs : cs.toList = flats F xs) (hb : base ≤ g) (hn : n = xs.length) (hm : n ≤ maxLen) : OwnF F e w base (.slice (some ⟨g, 0, none⟩) n n) xs := by
  subst hn
  have hl : cs.toList.length = xs.length * F.sz := by rw [hcs, flats_len]
  exact ⟨flats_len F xs, .inr ⟨g, xs.length, cs, rfl, hb, hk, Nat.le_refl _, hm, by rw [← Array.length_toList]; exact hl, by rw [hcs, List.take_of_length_le (by rw [flats_len]; exact Nat.le_refl _)]⟩⟩
end Go.Proofs.YtpdkgpbfmpekgaaGreatDoor
