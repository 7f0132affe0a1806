


/- How many pieces a store has, by the reference and by the program. -/
import Derived.Test.YtanppokbjladfaaNm
import Derived.Test.YtanppokbjladfaaSt
namespace Go.Proofs.Ytanppokbjladfaa
open Go.RowKit

section
variable {P : Program} {α : Type} {F : Flat α}
/-- append(out, ys...): ys is read. -/
theorem app_slice {w : World} {ops : Array Oper} {rest : List Oper} {o : Oper} {a : Act} {Q : Exit → Act → World → Prop} (hgd : o.guard = none) (s x : Operand) (t : TypeId)
    (ho : o.op = .call { callee := .builtin .append, args := #[s, x], argTypes := #[t, t] })
    {e : TypeId} {bytes : Nat} (hE : Elem P t e F.sz bytes) {base : Nat} {v : Value} {xs ys : List α} (hs : a.eval s = v) (hown : OwnF F e w base v xs) {A : Option Addr} {c lo hi : Nat} (hx : a.eval x = .slice A ys.length c) (hy : RSl (RFlat F) F.sz w lo hi ys [.slice A ys.length c]) (hhi : hi ≤ w.heap.size)
    (hn : xs.length + ys.length ≤ 1099511627776) (hbase : base ≤ w.heap.size)
    (h : ∀ v' w', OwnF F e w' base v' (xs ++ ys) → Chg (fun b => v.ownBlock = some b) w w' → (∀ b, v'.ownBlock = some b → v.ownBlock = some b ∨ w.heap.size ≤ b) → wpList P ops Q rest (a.put o.dst v') w') :
    wpList P ops Q (o :: rest) a w :=
  app_many hgd s x t ho hE hs hown hx (news := flats F ys) (flats_len F ys) (fun hp => by
    obtain ⟨ad, hA, hc⟩ := src_flat hy hhi hp
    exact ⟨ad, hA, fun j u hu => hc j u hu w (Below.refl _ _)⟩) (flats_one F ys) hn hbase fun v' w' h2 => h v' w' (by
    have h3 := h2.own
    unfold OwnF
    rw [flats_append, List.length_append]
    exact h3) h2.chg h2.at_
end
def pkN (p : Pk) : Nat := p.its.length
def namesAll (l : List Pk) : List Int := l.flatMap fun p => namesOf p.its
theorem namesAll_take {l : List Pk} {k : Nat} {x : Pk} (h : l[k]? = some x) : namesAll (l.take (k + 1)) = namesAll (l.take k) ++ namesOf x.its := by
  unfold namesAll
  rw [take_succ h, List.flatMap_append]; simp
theorem namesAll_len (l : List Pk) : ∀ j, (namesAll (l.take j)).length = cntTo pkN l j := fun j => by
  unfold namesAll cntTo
  generalize l.take j = m
  induction m with
  | nil => rfl
  | cons x m ih => rw [List.flatMap_cons, List.length_append, ih, namesOf_len, List.map_cons, List.sum_cons]; rfl
theorem cnt_bulk (l : List Pk) : cntS pkN l ≤ bulkS bPk l := by
  unfold cntS bulkS
  have : (l.map pkN).sum ≤ (l.map bPk).sum := by
    induction l with
    | nil => exact Nat.le_refl _
    | cons x l ih =>
      rw [List.map_cons, List.map_cons, List.sum_cons, List.sum_cons]
      have : pkN x ≤ bPk x := bulkS_len
      omega
  omega
set_option maxHeartbeats 1000000 in
theorem specStoreMany_any (l : List Pk) (B C : Option Addr) (nb b nc c' : Nat) (v : Value) (w : World) (lo hi : Nat) (h : RPks w lo hi l [v]) (hhi : hi ≤ w.heap.size) (hl : cntS pkN l ≤ 1099511627776) :
    Calls Try.prog 27 #[.agg #[v, .slice B nb b, .slice C nc c']] w fun e w' => e = .returned (.int .i64 (cntS pkN l)) ∧ Below w.heap.size w w' := by
  obtain ⟨A, c, rfl⟩ := h.form
  obtain ⟨_, hc, hx⟩ := h.len_
  unfold maxLen at hx
  go_enter Try.func27, Try.ntmps27
  go_wp2_with fail
  have hbw0 : Below w.heap.size w (w.alloc (.cells #[.slice A l.length c, .slice B nb b, .slice C nc c'] 56)) := below_alloc _ _
  have k0 : Blk (w.alloc (.cells #[.slice A l.length c, .slice B nb b, .slice C nc c'] 56)) (w.heap.size) 56 #[.slice A l.length c, .slice B nb b, .slice C nc c'] := by
    have hk := Blk.new w 56 #[.slice A l.length c, .slice B nb b, .slice C nc c']
    exact hk
  have hsw0 : w.heap.size + 1 ≤ (w.alloc (.cells #[.slice A l.length c, .slice B nb b, .slice C nc c'] 56)).heap.size := by simp only [World.size_alloc]; omega
  generalize (w.alloc (.cells #[.slice A l.length c, .slice B nb b, .slice C nc c'] 56)) = w0 at *
  have ck0 := k0.cell
  have fk0 := k0.frozen
  go_loopw [3, 4] (fun nn ii wr => ∃ k : Nat, k ≤ l.length ∧ ii = .int .i64 k ∧ nn = .int .i64 (cntTo pkN l k) ∧ Blk wr w.heap.size 56 #[.slice A l.length c, .slice B nb b, .slice C nc c'] ∧ Below w.heap.size w wr) (fun _ ii _ => l.length - (intOf ii).toNat)
  case atStart => exact ⟨0, Nat.zero_le _, rfl, rfl, k0, hbw0⟩
  case round =>
    clear k0 ck0 fk0 hbw0
    obtain ⟨k, hk, rfl, rfl, k0, hbr⟩ := hrel
    have ck0 := k0.cell 0
    have hle := cntTo_le (n := pkN) (l := l) (j := k)
    by_cases hlt : k < l.length
    · obtain ⟨p, hpk⟩ := some_of_lt hlt
      have hst := cntTo_step (n := pkN) hpk
      have hle2 := cntTo_le (n := pkN) (l := l) (j := k + 1)
      obtain ⟨b1, off1, A5, c5, rfl, -, -, hno64, cno, cits, hits⟩ := pk_at (RPks.tloc.below h hbr hhi) hpk
      have hpn : pkN p = p.its.length := rfl
      rw [hpn] at hst
      obtain ⟨z, hz⟩ : ∃ z : Nat, z = cntTo pkN l k := ⟨_, rfl⟩
      rw [← hz] at hst hle ⊢
      have hle3 : z + p.its.length ≤ 1099511627776 := by omega
      have HZ := Lib.hid hst
      clear hst hpk hz hle2 hpn
      go_wp2_with fail
      go_roundw
      case rel => exact ⟨k + 1, by omega, by go_num, by rw [HZ.out]; go_num, k0, hbr⟩
      case measure => simp [intOf]; omega
    · obtain rfl : k = l.length := by omega
      rw [cntTo_all]
      go_wp2_with fail
      go_ret
      exact ⟨rfl, hbr⟩
set_option maxHeartbeats 1000000 in
theorem packedNames_any (l : List Pk) (v : Value) (w : World) (lo hi : Nat) (hhi : hi ≤ w.heap.size) (h : RPks w lo hi l [v]) (hl : cntS pkN l ≤ 100000000) :
    Calls Try.prog 61 #[v] w (NewIn w (namesAll l)) := by
  obtain ⟨A, c, rfl⟩ := h.form
  obtain ⟨_, hc, hx⟩ := h.len_
  unfold maxLen at hx
  go_enter Try.func61, Try.ntmps61
  go_wp2_with fail
  go_loopw [3, 8] (fun oo ii wr => ∃ k : Nat, k ≤ l.length ∧ ii = .int .i64 k ∧ OwnF FInt 3 wr w.heap.size oo (namesAll (l.take k)) ∧ Below w.heap.size w wr) (fun oo ii _ => l.length - (intOf ii).toNat)
  case atStart => exact ⟨0, Nat.zero_le _, rfl, OwnF.nil _ _ _, Below.refl _ _⟩
  case round =>
    obtain ⟨k, hk, rfl, ho, hbr⟩ := hrel
    obtain ⟨Ao, co, rfl⟩ := ho.form
    have hll := namesAll_len l k
    have hle := cntTo_le (n := pkN) (l := l) (j := k)
    by_cases hlt : k < l.length
    · obtain ⟨p, hpk⟩ := some_of_lt hlt
      have hst := cntTo_step (n := pkN) hpk
      have hle2 := cntTo_le (n := pkN) (l := l) (j := k + 1)
      have hpn : pkN p = p.its.length := rfl
      rw [hpn] at hst
      have hstep := namesAll_take hpk
      have HST := Lib.hid hstep; clear hstep
      obtain ⟨b1, off1, A5, c5, rfl, -, -, hno64, cno, cits, hits⟩ := pk_at (RPks.tloc.below h hbr hhi) hpk
      have hlp : p.its.length ≤ 100000000 := by omega
      have hlb : (namesAll (l.take k)).length + p.its.length ≤ 100000000 := by omega
      have HPK := Lib.hid hpk
      clear hpk hst hle2 hpn hll hle
      revert ho; revert HST; revert hlb
      generalize namesAll (l.take k) = L
      intro hlb HST ho
      have HLB := Lib.hid hlb; clear hlb
      go_wp2_with fail
      have hbwa : Below wr.heap.size wr (wr.alloc (.cells #[.int .i64 p.no, .slice A5 p.its.length c5] 37)) := below_alloc _ _
      have m0 : Blk (wr.alloc (.cells #[.int .i64 p.no, .slice A5 p.its.length c5] 37)) (wr.heap.size) 37 #[.int .i64 p.no, .slice A5 p.its.length c5] := by
        have hk := Blk.new wr 37 #[.int .i64 p.no, .slice A5 p.its.length c5]
        exact hk
      have hswa : wr.heap.size + 1 ≤ (wr.alloc (.cells #[.int .i64 p.no, .slice A5 p.its.length c5] 37)).heap.size := by simp only [World.size_alloc]; omega
      generalize (wr.alloc (.cells #[.int .i64 p.no, .slice A5 p.its.length c5] 37)) = wa at *
      have cm0 := m0.cell
      have fm0 := m0.frozen
      replace ho := ho.below hbwa
      have hits' := RIts.tloc.below hits hbwa (by have := hbr.size; omega)
      replace hbr := below_below hbr hbwa
      refine (implPackNames_any p.no p.its _ _ _ _ (by have := hbr.size; omega) hits' hlp).mono ?_
      rintro e w5 ⟨v5, rfl, o5, b5⟩
      obtain ⟨A6, c6, rfl⟩ := o5.form
      replace ho := ho.below b5
      replace hbr := below_below hbr b5
      have hgd : ∀ z ∈ namesOf p.its, In64 z := fun z hz => by
        obtain ⟨it, hit, rfl⟩ := List.mem_map.1 hz
        exact ((RSl.good hits.1) it hit).1
      have HRD := Lib.hid (o5.sl hgd (Nat.le_refl _))
      clear hgd
      have hnl := namesOf_len p.its
      have HNL := Lib.hid hnl; clear hnl
      have HHO := Lib.hid ho; clear ho
      clear cm0 fm0 m0 cno cits
      go_wp2_with (at_builtin; refine app_slice (F := FInt) (v := .slice Ao L.length co) rfl (.tmp 12) (.tmp 14) 41 rfl elem_int rfl HHO.out rfl HRD.out (Nat.le_refl _) (by have := HLB.out; have := HNL.out; omega) hbr.size ?_; intro v8 w8 o8 ch8 at8; obtain ⟨A8, c8, rfl⟩ := o8.form; simp only [List.length_append] at o8)
      go_roundw
      case rel => exact ⟨k + 1, by omega, by go_num, by rw [HST.out]; exact o8, hbr.trans (ch8.below hbr.size fun i hi hs => by have := (HHO.out.at_ hs).1; omega)⟩
      case measure => simp [intOf]; omega
    · obtain rfl : k = l.length := by omega
      rw [List.take_length] at ho ⊢
      go_wp2_with fail
      go_ret
      exact ⟨_, rfl, ho, hbr⟩
set_option maxRecDepth 20000 in
theorem shelfOf_any (u0 u1 u2 : Value) (h0 : ∃ A n c, u0 = .slice A n c) (h1 : ∃ A n c, u1 = .slice A n c) (h2 : ∃ A n c, u2 = .slice A n c) (w : World) :
    Calls Try.prog 60 #[.agg #[u0, u1, u2]] w fun e w' => e = .returned (.agg #[u0, u1, u2]) ∧ Below w.heap.size w w' := by
  obtain ⟨A, n, c, rfl⟩ := h0
  obtain ⟨B, m, d, rfl⟩ := h1
  obtain ⟨C, k, e, rfl⟩ := h2
  go_enter Try.func60, Try.ntmps60
  go_wp2_with fail
  exact bodyPost_ret (v := .agg #[.slice A n c, .slice B m d, .slice C k e]) (by simp [results, Try.results60, go_sem]) rfl ⟨rfl, by repeat (first | exact Below.refl _ _ | refine Below.setCell ?_ (by first | (simp; done) | (simp; omega)) _ | refine Below.alloc ?_ (by first | (simp; done) | (simp; omega)) _)⟩
theorem shelf_field0 (A B C : Option Addr) (n c m d k e : Nat) (w : World) : (Instr.field 97 (.agg #[.slice A n c, .slice B m d, .slice C k e]) 0).run Try.prog w = .ok (.slice A n c) w := by
  simp [Instr.field, run_underlying Try.underlying97, asAgg, go_sem]
set_option maxRecDepth 20000 in
theorem implStoreMany_any (l : List Pk) (B C : Option Addr) (nb b nc c' : Nat) (v : Value) (w : World) (lo hi : Nat) (h : RPks w lo hi l [v]) (hhi : hi ≤ w.heap.size) (hl : cntS pkN l ≤ 100000000) :
    Calls Try.prog 29 #[.agg #[v, .slice B nb b, .slice C nc c']] w fun e w' => e = .returned (.int .i64 (cntS pkN l)) ∧ Below w.heap.size w w' := by
  obtain ⟨A, c, rfl⟩ := h.form
  go_enter Try.func29, Try.ntmps29
  go_wp2_with fail
  have hbw0 : Below w.heap.size w (w.alloc (.cells #[.slice A l.length c, .slice B nb b, .slice C nc c'] 56)) := below_alloc _ _
  have k0 : Blk (w.alloc (.cells #[.slice A l.length c, .slice B nb b, .slice C nc c'] 56)) (w.heap.size) 56 #[.slice A l.length c, .slice B nb b, .slice C nc c'] := by
    have hk := Blk.new w 56 #[.slice A l.length c, .slice B nb b, .slice C nc c']
    exact hk
  have hsw0 : w.heap.size + 1 ≤ (w.alloc (.cells #[.slice A l.length c, .slice B nb b, .slice C nc c'] 56)).heap.size := by simp only [World.size_alloc]; omega
  generalize (w.alloc (.cells #[.slice A l.length c, .slice B nb b, .slice C nc c'] 56)) = w0 at *
  have ck0 := k0.cell
  have fk0 := k0.frozen
  refine (shelfOf_any _ _ _ ⟨_, _, _, rfl⟩ ⟨_, _, _, rfl⟩ ⟨_, _, _, rfl⟩ w0).mono ?_
  rintro e w1 ⟨rfl, b1⟩
  replace hbw0 := below_below hbw0 b1
  have hfd := shelf_field0 A B C l.length c nb b nc c' w1
  go_wp2_with fail
  refine (packedNames_any l _ _ lo hi (Nat.le_trans hhi hbw0.size) (RPks.tloc.below h hbw0 hhi) hl).mono ?_
  rintro e w2 ⟨v2, rfl, o2, b2⟩
  obtain ⟨A2, c2, rfl⟩ := o2.form
  have hn : (namesAll l).length = cntS pkN l := by
    have := namesAll_len l l.length
    rw [List.take_length, cntTo_all] at this
    exact this
  rw [hn]
  go_wp2_with fail
  go_ret
  exact ⟨rfl, below_below hbw0 b2⟩
end Go.Proofs.Ytanppokbjladfaa
