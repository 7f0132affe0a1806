


/- Slices that a call makes itself and appends to. -/
import Derived.Test.YtpdkgpbfmpekgaaGreatDoorBase
import Derived.Maps.AppendAt
import Derived.Deep.OwnRows
namespace Go.Proofs.YtpdkgpbfmpekgaaGreatDoor
open Go.RowKit

/-- What is known of an element type, for an append. -/
structure Elem (P : Program) (t e : TypeId) (sz bytes : Nat) : Prop where
  slice : P.underlying t = some (.slice e)
  info : ∃ i z, P.info? e = some i ∧ i.zero = some z ∧ i.size = sz ∧ i.bytes = bytes ∧ z.cells.size = sz
  pos : 0 < sz
  small : bytes ≤ 128

section
variable {P : Program}
theorem Elem.mk' {t e : TypeId} {z : Value} {sz bytes : Nat} (ht : P.underlying t = some (.slice e)) (hi : (P.info? e).map (fun i => (i.zero, i.size, i.bytes)) = some (some z, sz, bytes)) (hz : z.cells.size = sz) (hp : 0 < sz) (hb : bytes ≤ 128) : Elem P t e sz bytes := by
  obtain ⟨i, h1, h2, h3, h4⟩ := info_parts hi
  exact ⟨ht, ⟨i, z, h1, h2, h3, h4, hz⟩, hp, hb⟩

/-- What an append leaves: the value v' owns the cells of v and the new ones behind. -/
structure Apped (w w' : World) (base : Nat) (e : TypeId) (sz : Nat) (v v' : Value) (n : Nat) (cells : List Value) : Prop where
  own : w'.ownsRow base e sz v' n cells
  chg : Chg (fun b => v.ownBlock = some b) w w'
  at_ : ∀ b, v'.ownBlock = some b → v.ownBlock = some b ∨ w.heap.size ≤ b

theorem own_below {w w' : World} {base : Nat} {e : TypeId} {sz n : Nat} {v : Value} {cells : List Value} (h : w.ownsRow base e sz v n cells) (hc : Chg (fun b => v.ownBlock = some b) w w') (hb : base ≤ w.heap.size) : Below base w w' :=
  hc.below hb fun i hi hv => by have := (h.lt i hv).1; omega

theorem own_chg {w w' : World} {base : Nat} {e : TypeId} {sz n : Nat} {v : Value} {cells : List Value} {S : Nat → Prop} (h : w.ownsRow base e sz v n cells) (hc : Chg S w w') (hS : ∀ b, v.ownBlock = some b → ¬ S b) : w'.ownsRow base e sz v n cells := by
  refine ⟨h.1, ?_⟩
  rcases h.2 with hn | ⟨g, cap, cur, rfl, hb, hgg, rest⟩
  · exact .inl hn
  · refine .inr ⟨g, cap, cur, rfl, hb, ?_, rest⟩
    rw [hc.block g (Array.getElem?_eq_some_iff.1 hgg).1 (hS g rfl)]
    exact hgg
theorem own_below' {w w' : World} {base : Nat} {e : TypeId} {sz n : Nat} {v : Value} {cells : List Value} (h : w.ownsRow base e sz v n cells) (hb : Below w.heap.size w w') : w'.ownsRow base e sz v n cells :=
  own_chg h (Chg.of_below (S := fun _ => False) hb) fun _ _ h => h
theorem own_drewN {w : World} {base : Nat} {e : TypeId} {sz n : Nat} {v : Value} {cells : List Value} (h : w.ownsRow base e sz v n cells) (k : Nat) : (w.drewN k).ownsRow base e sz v n cells := h

/-- The run of an append whose source is a slice of m elements, their cells known. -/
theorem run_app {w : World} {t ty e : TypeId} {sz bytes : Nat} (hE : Elem P t e sz bytes) {base : Nat} {v : Value} {n : Nat} {cells : List Value} (hown : w.ownsRow base e sz v n cells)
    {A : Option Addr} {m c : Nat} {news : List Value} (hl : news.length = m * sz) (hA : 0 < m → ∃ a, A = some a ∧ ∀ (j : Nat) (u : Value), news[j]? = some u → w.cell? (a.add j) = some u) (h1 : ∀ u ∈ news, u.oneCell' = true)
    (hn : n + m ≤ 1099511627776) (hbase : base ≤ w.heap.size) :
    ∃ v' w', (Builtin.append_ #[t, t] ty #[v, .slice A m c]).run P w = .ok v' w' ∧ Apped w w' base e sz v v' (n + m) (cells ++ news) := by
  obtain ⟨i, z, hi, hz, hsz, hby, hzs⟩ := hE.info
  have hbytes : (n + m) * bytes ≤ 140737488355328 := Nat.le_trans (Nat.mul_le_mul hn hE.small) (by omega)
  rcases Nat.eq_zero_or_pos m with h0 | h0
  · subst h0
    have hnil : news = [] := List.eq_nil_of_length_eq_zero (by simpa using hl)
    subst hnil
    cases A with
    | some ad =>
      obtain ⟨v', w', hr, h2, h3, _, h5⟩ := run_append_own_at (P := P) w base t ty e i z sz bytes hE.slice hi hz hsz hby hzs hE.pos v n cells hown ad 0 c [] (by simp) (fun j u hu => by simp at hu) (by simp) (by unfold maxLen; omega) hbytes hbase
      exact ⟨v', w', hr, h2, ⟨h3.os, h3.tape, h3.output, h3.size, fun k hk hne => h3.block k hk fun e => hne e.symm⟩, fun b hb => by rcases h5 with h5 | h5 <;> rw [h5] at hb <;> simp_all⟩
    | none =>
      refine ⟨v, w, ?_, by simpa using hown, Chg.refl _ _, fun b hb => .inl hb⟩
      rcases hown.2 with ⟨rfl, rfl⟩ | ⟨g, cap, cur, rfl, _, _, hnc, _⟩
      · simp [Builtin.append_, run_underlying hE.slice, sizeOf, typeInfo, hi, Builtin.lenOf, Builtin.firstCells]
      · simp [Builtin.append_, run_underlying hE.slice, sizeOf, typeInfo, hi, Builtin.lenOf, Builtin.firstCells, hnc, storeCells]
  · obtain ⟨ad, rfl, hcell⟩ := hA h0
    obtain ⟨v', w', hr, h2, h3, _, h5⟩ := run_append_own_at (P := P) w base t ty e i z sz bytes hE.slice hi hz hsz hby hzs hE.pos v n cells hown ad m c news hl hcell h1 (by unfold maxLen; omega) hbytes hbase
    exact ⟨v', w', hr, h2, ⟨h3.os, h3.tape, h3.output, h3.size, fun k hk hne => h3.block k hk fun e => hne e.symm⟩, fun b hb => by rcases h5 with h5 | h5 <;> rw [h5] at hb <;> simp_all⟩

theorem wp_app {w : World} {o : Oper} {a : Act} {K : Act → World → Prop} {Q : Exit → Act → World → Prop} (s x : Operand) (t : TypeId)
    (ho : o.op = .call { callee := .builtin .append, args := #[s, x], argTypes := #[t, t] })
    {e : TypeId} {sz bytes : Nat} (hE : Elem P t e sz bytes) {base : Nat} {v : Value} {n : Nat} {cells : List Value} (hs : a.eval s = v) (hown : w.ownsRow base e sz v n cells)
    {A : Option Addr} {m c : Nat} {news : List Value} (hx : a.eval x = .slice A m c) (hl : news.length = m * sz) (hA : 0 < m → ∃ a, A = some a ∧ ∀ (j : Nat) (u : Value), news[j]? = some u → w.cell? (a.add j) = some u) (h1 : ∀ u ∈ news, u.oneCell' = true)
    (hn : n + m ≤ 1099511627776) (hbase : base ≤ w.heap.size)
    (h : ∀ v' w', Apped w w' base e sz v v' (n + m) (cells ++ news) → K (a.put o.dst v') w') : o.wp P a w K Q := by
  obtain ⟨v', w', hrun, h2⟩ := run_app (P := P) (ty := o.type) hE hown (c := c) hl hA h1 hn hbase
  unfold Oper.wp execOp
  simp only [ho, resolve, invoke, builtin, Sem.run_bind, Sem.run_pure, Result.andThen_ok, List.map_toArray, List.map_cons, List.map_nil, hs, hx, hrun]
  exact h v' w' h2

/-- append(out, xs...). -/
theorem app_many {w : World} {ops : Array Oper} {rest : List Oper} {o : Oper} {a : Act} {Q : Exit → Act → World → Prop} (hgd : o.guard = none) (s x : Operand) (t : TypeId)
    (ho : o.op = .call { callee := .builtin .append, args := #[s, x], argTypes := #[t, t] })
    {e : TypeId} {sz bytes : Nat} (hE : Elem P t e sz bytes) {base : Nat} {v : Value} {n : Nat} {cells : List Value} (hs : a.eval s = v) (hown : w.ownsRow base e sz v n cells)
    {A : Option Addr} {m c : Nat} {news : List Value} (hx : a.eval x = .slice A m c) (hl : news.length = m * sz) (hA : 0 < m → ∃ a, A = some a ∧ ∀ (j : Nat) (u : Value), news[j]? = some u → w.cell? (a.add j) = some u) (h1 : ∀ u ∈ news, u.oneCell' = true)
    (hn : n + m ≤ 1099511627776) (hbase : base ≤ w.heap.size)
    (h : ∀ v' w', Apped w w' base e sz v v' (n + m) (cells ++ news) → wpList P ops Q rest (a.put o.dst v') w') : wpList P ops Q (o :: rest) a w :=
  wpList_plain hgd fun _ hK => wp_app s x t ho hE hs hown hx hl hA h1 hn hbase fun v' w' h2 => hK _ _ (h v' w' h2)

/-- append(out, x): the one element lies in a new block of its own. -/
theorem app_one {w : World} {ops : Array Oper} {rest : List Oper} {o : Oper} {a : Act} {Q : Exit → Act → World → Prop} (hgd : o.guard = none) (s x : Operand) (t : TypeId)
    (ho : o.op = .call { callee := .builtin .append, args := #[s, x], argTypes := #[t, t] })
    {e : TypeId} {sz bytes : Nat} (hE : Elem P t e sz bytes) {base : Nat} {v : Value} {n : Nat} {cells : List Value} (hs : a.eval s = v) (hown : w.ownsRow base e sz v n cells)
    {es : Array Value} {T : TypeId} (hx : a.eval x = .slice (some ⟨w.heap.size, 0, none⟩) 1 1) (hl : es.size = sz) (h1 : ∀ u ∈ es.toList, u.oneCell' = true)
    (hn : n ≤ 1099511627775) (hbase : base ≤ w.heap.size)
    (h : ∀ v' w', Apped w w' base e sz v v' (n + 1) (cells ++ es.toList) → wpList P ops Q rest (a.put o.dst v') w') : wpList P ops Q (o :: rest) a (w.alloc (.cells es T)) := by
  refine app_many hgd s x t ho hE hs (hown.alloc _) (c := 1) (m := 1) (news := es.toList) hx (by simp [hl]) (fun _ => ⟨_, rfl, fun j u hu => ?_⟩) h1 (by omega) (by simp; omega) fun v' w' h2 => h v' w' ?_
  · have hadd : (⟨w.heap.size, 0, none⟩ : Addr).add j = ⟨w.heap.size, j, none⟩ := by unfold Addr.add; split <;> simp_all
    rw [hadd, (Blk.new w T es).cell]
    simpa using hu
  · refine ⟨h2.own, ?_, ?_⟩
    · exact ((Chg.refl (fun b => v.ownBlock = some b) w).alloc _).trans h2.chg fun i _ hi => hi
    · intro b hb
      rcases h2.at_ b hb with h3 | h3
      · exact .inl h3
      · simp at h3; right; omega
end

/-- A slice of ints that the call owns. -/
def OwnI (w : World) (base : Nat) (v : Value) (xs : List Int) : Prop := w.ownsRow base 3 1 v xs.length (xs.map (Value.int .i64))
theorem elem_int : Elem Tryz.prog 31 3 1 8 := Elem.mk' Tryz.underlying31 (z := .int .i64 0) (by kernel_rfl) rfl (by decide) (by decide)
theorem own_form {w : World} {base : Nat} {e : TypeId} {sz n : Nat} {v : Value} {cells : List Value} (h : w.ownsRow base e sz v n cells) : ∃ A c, v = .slice A n c := by
  rcases h.2 with ⟨rfl, rfl⟩ | ⟨g, cap, cur, rfl, _⟩
  · exact ⟨_, _, rfl⟩
  · exact ⟨_, _, rfl⟩
/-- An owned row whose elements read one by one reads as a slice. -/
theorem own_sl {α : Type} {E : Rep α} {w : World} {base hi : Nat} {e : TypeId} {sz : Nat} {v : Value} {cells : List Value} {xs : List α} (h : w.ownsRow base e sz v xs.length cells) (hhi : w.heap.size ≤ hi)
    (hE : ∀ i x, xs[i]? = some x → ∃ es : List Value, es.length = sz ∧ E w base hi x es ∧ ∀ j u, es[j]? = some u → cells[i * sz + j]? = some u) : RSl E sz w base hi xs [v] := by
  obtain ⟨h1, h2⟩ := h
  rcases h2 with ⟨rfl, h0⟩ | ⟨g, cap, cur, rfl, hb, hh, hnc, hcm, hcs, htake⟩
  · exact ⟨none, 0, by rw [h0], by omega, by unfold maxLen; omega, fun hp => by omega⟩
  · refine ⟨_, cap, rfl, hnc, hcm, fun _ => ⟨g, 0, rfl, hb, Nat.lt_of_lt_of_le (Array.getElem?_eq_some_iff.1 hh).1 hhi, fun i x hi => ?_⟩⟩
    obtain ⟨es, hl, he, hc⟩ := hE i x hi
    refine ⟨es, hl, he, fun j u hu => ?_⟩
    have hx := hc j u hu
    rw [← htake, List.getElem?_take] at hx
    split at hx
    · rw [cell_of_row w g (0 + i * sz + j) cur e (0, 0) hh]
      rw [Nat.zero_add]
      simpa using hx
    · cases hx
theorem OwnI.sl {w : World} {base hi : Nat} {v : Value} {xs : List Int} (h : OwnI w base v xs) (h64 : ∀ x ∈ xs, In64 x) (hhi : w.heap.size ≤ hi) : RSl RInt 1 w base hi xs [v] :=
  own_sl h hhi fun i x hi => ⟨[.int .i64 x], rfl, ⟨rfl, h64 x (List.mem_of_getElem? hi)⟩, fun j u hu => by
    have hj : j = 0 := by have := lt_of_some hu; simpa using this
    subst hj
    simp at hu
    subst hu
    rw [List.getElem?_map, Nat.mul_one, Nat.add_zero, hi]; rfl⟩
theorem OwnI.nil (w : World) (base : Nat) : OwnI w base (.slice none 0 0) [] := World.ownsRow_nil _ _ _ _
theorem OwnI.lit0 (w : World) {base : Nat} (hb : base ≤ w.heap.size) : OwnI (w.alloc (.cells #[] 3)) base (.slice (some ⟨w.heap.size, 0, none⟩) 0 0) [] :=
  World.ownsRow_lit w #[] 0 hb (by unfold maxLen; omega) rfl
theorem OwnI.below {w w' : World} {base : Nat} {v : Value} {xs : List Int} (h : OwnI w base v xs) (hb : Below w.heap.size w w') : OwnI w' base v xs := own_below' h hb
theorem OwnI.drewN {w : World} {base : Nat} {v : Value} {xs : List Int} (h : OwnI w base v xs) (n : Nat) : OwnI (w.drewN n) base v xs := h
/-- append(out, x) at ints: what the walk goes on with. -/
theorem app_int {w : World} {ops : Array Oper} {rest : List Oper} {o : Oper} {a : Act} {Q : Exit → Act → World → Prop} (hgd : o.guard = none) (s x : Operand)
    (ho : o.op = .call { callee := .builtin .append, args := #[s, x], argTypes := #[31, 31] })
    {base : Nat} {v : Value} {xs : List Int} (y : Int) (hs : a.eval s = v) (hown : OwnI w base v xs) (hx : a.eval x = .slice (some ⟨w.heap.size, 0, none⟩) 1 1) (hn : xs.length ≤ 1099511627775) (hbase : base ≤ w.heap.size)
    (h : ∀ v' w', OwnI w' base v' (xs ++ [y]) → Chg (fun b => v.ownBlock = some b) w w' → (∀ b, v'.ownBlock = some b → v.ownBlock = some b ∨ w.heap.size ≤ b) → wpList Tryz.prog ops Q rest (a.put o.dst v') w') :
    wpList Tryz.prog ops Q (o :: rest) a (w.alloc (.cells #[.int .i64 y] 3)) :=
  app_one hgd s x 31 ho elem_int hs hown hx rfl (by simp [Value.oneCell']) hn hbase fun v' w' h2 => h v' w' (by
    have h3 := h2.own
    unfold OwnI
    rw [List.map_append, List.length_append]
    exact h3) h2.chg h2.at_
end Go.Proofs.YtpdkgpbfmpekgaaGreatDoor
