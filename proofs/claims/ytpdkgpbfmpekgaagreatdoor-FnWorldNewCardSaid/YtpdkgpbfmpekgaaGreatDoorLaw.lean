


/- The step from a walk to a row, once for all laws: a law takes arguments that can be read, answers true, and turns nothing that was there. -/
import Derived.Test.YtpdkgpbfmpekgaaGreatDoorBase
import Derived.HandedShaped
import Derived.Carry
namespace Go.Proofs.YtpdkgpbfmpekgaaGreatDoor
open Go.RowKit Go.ChangeShapes Go.WideShapes Go.ChangeAt

section
variable {H : Type} {enc : TypeId × Value → H} {P : Program}

/-- All arguments read behind the call as they did. -/
theorem trodAll_stays (hl : laidOutB P = true) {W W' : World} {sp' : Nat → Bool} : ∀ {ts : List TypeId} {vs : List Value} {ds : List (DataW H)} {ps : List MemPlace},
    (∀ t ∈ ts, P.readableRec t = true ∧ t < P.types.size) → DataW.TrodAll enc P W 0 (fun _ => true) true ts vs ds ps → (∀ p ∈ ps, W.sameAt W' p) → (∀ p ∈ ps, sp' p.block = true) →
    DataW.TrodAll enc P W' 0 sp' true ts vs ds ps
  | [], _, _, _, _, h, _, _ => by
    obtain ⟨rfl, rfl, rfl⟩ := trodAll_nil h
    exact trodAll_mk0
  | t :: ts, _, _, _, hr, h, hs, hsp => by
    obtain ⟨v, vs1, d, ds1, a, b, rfl, rfl, rfl, h1, h2⟩ := trodAll_cons h
    obtain ⟨r1, r2⟩ := hr t (by simp)
    refine trodAll_cons_mk (WideElems.Trod_stays hl r1 r2 h1 (fun p hp => hs p (by simp [hp])) (fun p hp => hsp p (by simp [hp]))) ?_
    exact trodAll_stays hl (fun t ht => hr t (by simp [ht])) h2 (fun p hp => hs p (by simp [hp])) (fun p hp => hsp p (by simp [hp]))

/-- Behind a call that turned nothing below the old heap and answered true, the law's post holds. -/
theorem law_post {f : Func} {s : ChangeSpec} {apart : Bool} {W W' : World} {args : Array Value} {ds gs : List (DataW H)} {before : List MemPlace} {tb : TypeId}
    (hl : laidOutB P = true) (hr : ∀ t ∈ f.params.toList, P.readableRec t = true ∧ t < P.types.size) (hres : f.resultTypes = #[tb]) (htb : P.underlying tb = some .bool) (hvars : s.vars = [])
    (hfn : s.fn H (ds ++ gs) = { results := [.lit (.bool true)], args := ds })
    (hW : DataW.Whole enc P f.params.toList s.vars apart W args.toList ds gs before) (hb : Below W.heap.size W W') :
    s.post enc P f apart true false false W args (.bool true) W' := by
  have hlt : ∀ p ∈ before, p.block < W.heap.size := fun p hp => by simpa using hW.lt p hp
  have hW0 := hW
  obtain ⟨p, q, hA, hV, rfl, hfz, hnd⟩ := hW
  rw [hvars] at hV
  obtain ⟨rfl, rfl⟩ := trodVars_none hV
  refine ⟨ds, [], p ++ [], [], p, [], hW0, ?_, ?_, ?_, World.keptBut_mono (fun x hx => ⟨hx, .inr (.inl (by simpa using hx))⟩) (hb.frame (· ∈ p ++ [])), fun h => by cases h⟩
  · rw [hfn, hres]
    exact trodAll_mk1 (shut_bool htb _)
  · rw [hfn]
    exact trodAll_stays hl hr hA (fun x hx => hb.same (hlt x (by simpa using hx))) (fun x hx => by simpa using hlt x (by simpa using hx))
  · rw [hvars]
    rw [hfn]; rfl
theorem trodAll_len {w : World} {base : Nat} {spare : Nat → Bool} {held : Bool} : ∀ {ts : List TypeId} {vs : List Value} {ds : List (DataW H)} {ps : List MemPlace}, DataW.TrodAll enc P w base spare held ts vs ds ps → ds.length = ts.length
  | [], _, _, _, h => by
    obtain ⟨_, rfl, _⟩ := trodAll_nil h
    rfl
  | t :: ts, _, _, _, h => by
    obtain ⟨v, vs1, d, ds1, a, b, rfl, rfl, rfl, h1, h2⟩ := trodAll_cons h
    rw [List.length_cons, List.length_cons, trodAll_len h2]
end

/-- A law's row out of its walk. -/
theorem law_lifted {C : Checked} {os : Os} {k : FuncId} {f : Func} {s : ChangeSpec} {apart : Bool} {tb : TypeId} {H : Type} {enc : TypeId × Value → H}
    (own : ownKnob C.prog.godebug = none) (started : os.Started) (noInit : C.prog.inits.idxOf? k = none) (hfunc : C.prog.funcs[k]? = some f)
    (hl : laidOutB C.prog = true) (hr : (f.params.toList.all fun t => C.prog.readableRec t && decide (t < C.prog.types.size)) = true) (hres : f.resultTypes = #[tb]) (htb : C.prog.underlying tb = some .bool) (hvars : s.vars = [])
    (hfn : ∀ ds : List (DataW H), ds.length = f.params.toList.length → s.fn H ds = { results := [.lit (.bool true)], args := ds })
    (witness : ∃ (w : World) (tape : Tape) (i : Input), w.os = os ∧ (w.forCall tape i).Shaped C.prog ∧ i.vars = [] ∧ Input.okWide C.prog (w.forCall tape i) .any w.heap.size k i ∧
      s.pre6 enc C.prog f [] apart (w.forCall tape i).memory i.args ∧ Assume.holds {} C.prog (lone (Frame.enter C.prog k i.args .normal) [] (w.forCall tape i)))
    (walk : ∀ (W : World) (base : Nat) (args : Array Value) (ds : List (DataW H)) (p : List MemPlace),
      (∀ (j : Nat) t v, f.params[j]? = some t → args[j]? = some v → Value.okWide C.prog W .any base t v) →
      DataW.TrodAll enc C.prog W 0 (fun _ => true) true f.params.toList args.toList ds p → (∀ x ∈ p, x.block < W.heap.size) →
      (DataW.weightsEach C.prog f.params.toList ds).all (· ≤ reachBytes) = true → W.ShapedOpen C.prog →
      Calls C.prog k args W fun e W' => e = .returned (.bool true) ∧ Below W.heap.size W W') :
    ReturnsInHanded {} C os k .any (s.pre6 enc C.prog f [] apart) (s.post enc C.prog f apart true false false) := by
  refine returnsInHanded_of_change_shaped own started noInit hfunc witness ?_
  intro W base args ds gs before hval hW _ hsz hsh _
  have hlt : ∀ p ∈ before, p.block < W.heap.size := fun p hp => by simpa using hW.lt p hp
  have hr' : ∀ t ∈ f.params.toList, C.prog.readableRec t = true ∧ t < C.prog.types.size := fun t ht => by
    have := List.all_eq_true.1 hr t ht
    simpa using this
  obtain ⟨p, q, hA, hV, hpq, hfz, hnd⟩ := id hW
  rw [hvars] at hV
  obtain ⟨rfl, rfl⟩ := trodVars_none hV
  have hlen : ds.length = f.params.toList.length := trodAll_len hA
  have hsz' : (DataW.weightsEach C.prog f.params.toList ds).all (· ≤ reachBytes) = true := by
    have e : s.plain.varTypes C.prog = [] := by simp [ChangeSpec.plain, DataSpec.varTypes, hvars]
    rw [e] at hsz
    simpa using hsz
  refine (walk W base args ds p hval hA (fun x hx => hlt x (by rw [hpq]; simpa using hx)) hsz' hsh).mono fun e W' ⟨he, hb⟩ => ?_
  exact ⟨_, he, law_post hl hr' hres htb hvars (by simpa using hfn ds hlen) hW hb⟩

set_option maxRecDepth 100000 in
theorem own : ownKnob Tryz.prog.godebug = none := by kernel_rfl
set_option maxRecDepth 100000 in
theorem laidOut : laidOutB Tryz.prog = true := by kernel_rfl
theorem in64_of_wf {x : Int} (h : (Lit.int .i64 x).wf = true) : In64 x := by
  simp [Lit.wf, IntKind.min, IntKind.max, IntKind.signed, IntKind.bits] at h
  exact ⟨by omega, by omega⟩
section
variable {H : Type} {enc : TypeId × Value → H} {P : Program}
/-- A slice of integers of one kind that came in reads as the list of its numbers. -/
theorem open_nums {w : World} {base : Nat} {spare : Nat → Bool} {held : Bool} {b0 : Nat} {r : Reach} {t e : TypeId} {k : IntKind} {v : Value} {d : DataW H} {p : List MemPlace} {E : Rep Int} (ht : P.underlying t = some (.slice e)) (he : P.underlying e = some (.int k)) (hc : P.cellsOf e = 1)
    (hE : ∀ (w : World) (lo hi : Nat) (x : Int), (Lit.int k x).wf = true → E w lo hi x [.int k x])
    (hv : Value.okWide P w r b0 t v) (h : DataW.Trod enc P w base spare held t v d p) (hlt : ∀ x ∈ p, x.block < w.heap.size) :
    ∃ xs : List Int, RSl E 1 w 0 w.heap.size xs [v] := by
  obtain ⟨a0, len, cap, rfl⟩ := okWide_slice ht hv
  obtain ⟨fuel, hf⟩ := h
  rcases open_ints ht he hc hf with ⟨hcs, hx⟩ | ⟨a, len', cap', zs, hcs, _, hl, hm, hz, hx, hcell, hwz⟩
  · simp [Value.cells] at hcs
    obtain ⟨rfl, rfl, rfl⟩ := hcs
    exact ⟨[], none, 0, rfl, Nat.le_refl _, by unfold maxLen; omega, fun h => absurd h (by simp)⟩
  · simp [Value.cells] at hcs
    obtain ⟨rfl, rfl, rfl⟩ := hcs
    have hlen : (zs.take len).length = len := by
      rw [List.length_take, hz]; split <;> omega
    refine ⟨zs.take len, some a, cap, by rw [hlen], by omega, hm, fun hp => ?_⟩
    rw [hlen] at hp
    have hzl : len ≤ zs.length := by rw [hz]; split <;> omega
    obtain ⟨b, off, rfl, hat⟩ := ints_at hcell (by omega)
    refine ⟨b, off, rfl, Nat.zero_le _, ?_, fun i x hi => ?_⟩
    · simp only [Prod.mk.injEq] at hx
      have hmem : MemPlace.cell b off ∈ p := by
        rw [hx.2]
        have : zs.length = (zs.length - 1) + 1 := by omega
        simp [MemPlace.row]
        omega
      exact hlt _ hmem
    · have hi' : i < len := by have := lt_of_some hi; omega
      have hg : zs.getD i 0 = x := by
        rw [List.getElem?_take_of_lt hi'] at hi
        rw [List.getD_eq_getElem?_getD, hi]; rfl
      refine ⟨[.int k x], rfl, hE _ _ _ _ (hwz x ?_), fun j u hu => ?_⟩
      · rw [List.getElem?_take_of_lt hi'] at hi
        exact List.mem_of_getElem? hi
      · have hj : j = 0 := by have := lt_of_some hu; simpa using this
        subst hj
        simp at hu
        subst hu
        have := hat i (by omega)
        rw [hg] at this
        simpa using this
end
set_option maxRecDepth 100000 in
theorem open_int_slice {H : Type} {enc : TypeId × Value → H} {w : World} {base : Nat} {spare : Nat → Bool} {held : Bool} {b0 : Nat} {r : Reach} {v : Value} {d : DataW H} {p : List MemPlace}
    (hv : Value.okWide Tryz.prog w r b0 31 v) (h : DataW.Trod enc Tryz.prog w base spare held 31 v d p) (hlt : ∀ x ∈ p, x.block < w.heap.size) : ∃ xs : List Int, RSl RInt 1 w 0 w.heap.size xs [v] :=
  open_nums Tryz.underlying31 Tryz.underlying3 (by kernel_rfl) (fun _ _ _ x hx => ⟨rfl, in64_of_wf hx⟩) hv h hlt
set_option maxRecDepth 100000 in
theorem open_byte_slice {H : Type} {enc : TypeId × Value → H} {w : World} {base : Nat} {spare : Nat → Bool} {held : Bool} {b0 : Nat} {r : Reach} {v : Value} {d : DataW H} {p : List MemPlace}
    (hv : Value.okWide Tryz.prog w r b0 22 v) (h : DataW.Trod enc Tryz.prog w base spare held 22 v d p) (hlt : ∀ x ∈ p, x.block < w.heap.size) : ∃ xs : List Int, RSl RByte 1 w 0 w.heap.size xs [v] :=
  open_nums Tryz.underlying22 Tryz.underlying5 (by kernel_rfl) (fun _ _ _ x hx => ⟨rfl, by simp [Lit.wf, IntKind.min, IntKind.max, IntKind.signed, IntKind.bits] at hx; exact ⟨by omega, by omega⟩⟩) hv h hlt

end Go.Proofs.YtpdkgpbfmpekgaaGreatDoor
