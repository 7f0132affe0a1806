


/- The law FnExactWorldNew: for all integers the program's WorldNew returns what the reference's returns, and hands back memory of its own. No condition. -/
import Derived.Test.YtalkkdhbccjepaaLaw
import Derived.Test.YtalkkdhbccjepaaWnN
import Derived.Test.YtalkkdhbccjepaaHeard
import Derived.Test.YtalkkdhbccjepaaEnter
import Derived.Test.YtalkkdhbccjepaaMake
namespace Go.Proofs.Ytalkkdhbccjepaa.lawewn
open Go.RowKit Go.ChangeShapes Go.WideShapes Go.ChangeAt

theorem wks_good (b : Bool) : ∀ x ∈ wks b, FMe.good x := fun x hx => by
  cases b with
  | false => cases hx
  | true =>
    simp only [wks, if_true, List.mem_cons, List.not_mem_nil, or_false] at hx
    rcases hx with rfl | rfl <;> (show In64 0 ∧ In64 0; unfold In64; omega)
theorem wfs_good (b : Bool) : ∀ x ∈ wfs b, In64 x := fun x hx => by
  cases b with
  | false => cases hx
  | true =>
    simp only [wfs, if_true, List.mem_cons, List.not_mem_nil, or_false] at hx
    rcases hx with rfl | rfl <;> (unfold In64; omega)
theorem w_len (b : Bool) : (wks b).length ≤ 1000 ∧ (wfs b).length ≤ 1000 := by cases b <;> simp [wks, wfs]
set_option maxRecDepth 8000 in
set_option maxHeartbeats 8000000 in
theorem walk (key : Int) (_ : In64 key) (w : World) :
    Calls Try.prog 3 #[.int .i64 key] w fun e w' => e = .returned (.bool true) ∧ Below w.heap.size w w' := by
  obtain ⟨ok, hok⟩ : ∃ b : Bool, b = true ↔ 1 ≤ key ∧ key ≤ 99 := ⟨decide (1 ≤ key ∧ key ≤ 99), by simp⟩
  have HOK := Lib.hid hok; clear hok
  go_enter Try.func3, Try.ntmps3
  go_wp2_with fail
  refine (specWorldNew_any key ok HOK.out _).mono ?_
  rintro e w1 ⟨v1, rfl, e1, bb1⟩
  have z0 := bb1.size
  obtain ⟨kk, hkk⟩ : ∃ kk, kk = (if ok then key else 0) := ⟨_, rfl⟩
  obtain ⟨ks, hks⟩ : ∃ ks, ks = wks ok := ⟨_, rfl⟩
  obtain ⟨fs, hfs⟩ : ∃ fs, fs = wfs ok := ⟨_, rfl⟩
  have HKS := Lib.hid (hks ▸ wks_good ok)
  have HFS := Lib.hid (hfs ▸ wfs_good ok)
  have hlen : ks.length ≤ 1000 ∧ fs.length ≤ 1000 := by rw [hks, hfs]; exact w_len ok
  have HNEW : Hid (∀ w, Calls Try.prog 8 #[.int .i64 key] w fun e w' => ∃ v, e = .returned (.tuple #[v, .bool ok]) ∧ EWo kk ks fs w' w.heap.size v ∧ Below w.heap.size w w') := Lib.hid (by rw [hkk, hks, hfs]; exact fun w => implWorldNew_any key ok HOK.out w)
  rw [← hkk, ← hks, ← hfs] at e1
  clear hkk hks hfs
  obtain ⟨P1, p1, Q1, q1, R1, r1, A1, a1, B1, b1, K1, F1, rfl, o1, u1⟩ := e1
  obtain ⟨AK1, cK1, rfl⟩ := o1.form
  obtain ⟨AF1, cF1, rfl⟩ := u1.form
  have at1 := Lib.hid (fun g hg => (o1.at_ (g := g) hg).2)
  have au1 := Lib.hid (fun g hg => (u1.at_ (g := g) hg).2)
  go_wp2_with fail
  have hbw2 : Below w1.heap.size w1 (w1.alloc (.cells #[.int .i64 kk, .slice P1 0 p1, .slice Q1 0 q1, .slice R1 0 r1, .slice A1 0 a1, .slice B1 0 b1, .int .i64 0, .int .i64 0, .int .i64 0, .string ⟨#[]⟩, .slice AK1 ks.length cK1, .slice AF1 fs.length cF1] 34)) := below_alloc _ _
  have k0 : Blk (w1.alloc (.cells #[.int .i64 kk, .slice P1 0 p1, .slice Q1 0 q1, .slice R1 0 r1, .slice A1 0 a1, .slice B1 0 b1, .int .i64 0, .int .i64 0, .int .i64 0, .string ⟨#[]⟩, .slice AK1 ks.length cK1, .slice AF1 fs.length cF1] 34)) (w1.heap.size) 34 #[.int .i64 kk, .slice P1 0 p1, .slice Q1 0 q1, .slice R1 0 r1, .slice A1 0 a1, .slice B1 0 b1, .int .i64 0, .int .i64 0, .int .i64 0, .string ⟨#[]⟩, .slice AK1 ks.length cK1, .slice AF1 fs.length cF1] := by
    have hk := Blk.new w1 34 #[.int .i64 kk, .slice P1 0 p1, .slice Q1 0 q1, .slice R1 0 r1, .slice A1 0 a1, .slice B1 0 b1, .int .i64 0, .int .i64 0, .int .i64 0, .string ⟨#[]⟩, .slice AK1 ks.length cK1, .slice AF1 fs.length cF1]
    exact hk
  have hsw2 : w1.heap.size + 1 ≤ (w1.alloc (.cells #[.int .i64 kk, .slice P1 0 p1, .slice Q1 0 q1, .slice R1 0 r1, .slice A1 0 a1, .slice B1 0 b1, .int .i64 0, .int .i64 0, .int .i64 0, .string ⟨#[]⟩, .slice AK1 ks.length cK1, .slice AF1 fs.length cF1] 34)).heap.size := by simp only [World.size_alloc]; omega
  generalize (w1.alloc (.cells #[.int .i64 kk, .slice P1 0 p1, .slice Q1 0 q1, .slice R1 0 r1, .slice A1 0 a1, .slice B1 0 b1, .int .i64 0, .int .i64 0, .int .i64 0, .string ⟨#[]⟩, .slice AK1 ks.length cK1, .slice AF1 fs.length cF1] 34)) = w2 at *
  have ck0 := k0.cell
  have fk0 := k0.frozen
  replace o1 := o1.below hbw2
  replace u1 := u1.below hbw2
  replace bb1 := below_below bb1 hbw2
  refine (HNEW.out w2).mono ?_
  rintro e w3 ⟨v2, rfl, e2, bb3⟩
  replace k0 := blk_keep k0 bb3
  replace ck0 := k0.cell
  replace fk0 := k0.frozen
  replace o1 := o1.below bb3
  replace u1 := u1.below bb3
  replace bb1 := below_below bb1 bb3
  obtain ⟨P2, p2, Q2, q2, R2, r2, A2, a2, B2, b2, K2, F2, rfl, o2, u2⟩ := e2
  obtain ⟨AK2, cK2, rfl⟩ := o2.form
  obtain ⟨AF2, cF2, rfl⟩ := u2.form
  have z3 := bb3.size
  have HL3 : Hid ((∀ g, (Value.slice AK2 ks.length cK2).ownBlock = some g → g < w3.heap.size) ∧ ∀ g, (Value.slice AF2 fs.length cF2).ownBlock = some g → g < w3.heap.size) := Lib.hid ⟨fun g hg => (o2.at_ hg).2, fun g hg => (u2.at_ hg).2⟩
  have ax := below_alloc w3 (.cells #[.int .i64 kk, .slice P2 0 p2, .slice Q2 0 q2, .slice R2 0 r2, .slice A2 0 a2, .slice B2 0 b2, .int .i64 0, .int .i64 0, .int .i64 0, .string ⟨#[]⟩, .slice AK2 ks.length cK2, .slice AF2 fs.length cF2] 34)
  have ka0 := (blk_keep k0 ax).cell
  go_wp2_with fail
  clear ax ka0
  have hbw4 : Below w3.heap.size w3 (w3.alloc (.cells #[.int .i64 kk, .slice P2 0 p2, .slice Q2 0 q2, .slice R2 0 r2, .slice A2 0 a2, .slice B2 0 b2, .int .i64 0, .int .i64 0, .int .i64 0, .string ⟨#[]⟩, .slice AK2 ks.length cK2, .slice AF2 fs.length cF2] 34)) := below_alloc _ _
  have m0 : Blk (w3.alloc (.cells #[.int .i64 kk, .slice P2 0 p2, .slice Q2 0 q2, .slice R2 0 r2, .slice A2 0 a2, .slice B2 0 b2, .int .i64 0, .int .i64 0, .int .i64 0, .string ⟨#[]⟩, .slice AK2 ks.length cK2, .slice AF2 fs.length cF2] 34)) (w3.heap.size) 34 #[.int .i64 kk, .slice P2 0 p2, .slice Q2 0 q2, .slice R2 0 r2, .slice A2 0 a2, .slice B2 0 b2, .int .i64 0, .int .i64 0, .int .i64 0, .string ⟨#[]⟩, .slice AK2 ks.length cK2, .slice AF2 fs.length cF2] := by
    have hk := Blk.new w3 34 #[.int .i64 kk, .slice P2 0 p2, .slice Q2 0 q2, .slice R2 0 r2, .slice A2 0 a2, .slice B2 0 b2, .int .i64 0, .int .i64 0, .int .i64 0, .string ⟨#[]⟩, .slice AK2 ks.length cK2, .slice AF2 fs.length cF2]
    exact hk
  have hsw4 : w3.heap.size + 1 ≤ (w3.alloc (.cells #[.int .i64 kk, .slice P2 0 p2, .slice Q2 0 q2, .slice R2 0 r2, .slice A2 0 a2, .slice B2 0 b2, .int .i64 0, .int .i64 0, .int .i64 0, .string ⟨#[]⟩, .slice AK2 ks.length cK2, .slice AF2 fs.length cF2] 34)).heap.size := by simp only [World.size_alloc]; omega
  generalize (w3.alloc (.cells #[.int .i64 kk, .slice P2 0 p2, .slice Q2 0 q2, .slice R2 0 r2, .slice A2 0 a2, .slice B2 0 b2, .int .i64 0, .int .i64 0, .int .i64 0, .string ⟨#[]⟩, .slice AK2 ks.length cK2, .slice AF2 fs.length cF2] 34)) = w4 at *
  have cm0 := m0.cell
  have fm0 := m0.frozen
  replace k0 := blk_keep k0 hbw4
  replace ck0 := k0.cell
  replace fk0 := k0.frozen
  replace o1 := o1.below hbw4
  replace u1 := u1.below hbw4
  replace o2 := o2.below hbw4
  replace u2 := u2.below hbw4
  replace bb1 := below_below bb1 hbw4
  refine (eqWorld_em kk ks fs HKS.out HFS.out _ _ w4 _ _ ⟨P2, p2, Q2, q2, R2, r2, A2, a2, B2, b2, _, _, rfl, o2, u2⟩ ⟨P1, p1, Q1, q1, R1, r1, A1, a1, B1, b1, _, _, rfl, o1, u1⟩).mono ?_
  rintro e w5 ⟨rfl, b5⟩
  replace k0 := blk_keep k0 b5
  replace ck0 := k0.cell
  replace fk0 := k0.frozen
  replace m0 := blk_keep m0 b5
  replace cm0 := m0.cell
  replace fm0 := m0.frozen
  replace o1 := o1.below b5
  replace u1 := u1.below b5
  replace o2 := o2.below b5
  replace u2 := u2.below b5
  replace bb1 := below_below bb1 b5
  cases ok
  all_goals
    have at2 := Lib.hid (fun g hg => o2.at_ (g := g) hg)
    have au2 := Lib.hid (fun g hg => u2.at_ (g := g) hg)
    have z5 := b5.size
    have z4 := hbw4.size
    go_wp2_with fail
    refine (markWorld_em kk ks fs hlen P2 p2 Q2 q2 R2 r2 A2 a2 B2 b2 AK2 cK2 AF2 cF2 w5 _ o2 u2).mono ?_
    rintro e w6 ⟨rfl, ⟨m1, m2⟩, c6⟩
    have hS : ∀ g, (Value.slice AK2 ks.length cK2).ownBlock = some g ∨ (Value.slice AF2 fs.length cF2).ownBlock = some g → w2.heap.size ≤ g := fun g hg => hg.elim (fun h => (at2.out g h).1) fun h => (au2.out g h).1
    have hS3 : ∀ g, (Value.slice AK2 ks.length cK2).ownBlock = some g ∨ (Value.slice AF2 fs.length cF2).ownBlock = some g → g < w3.heap.size := fun g hg => hg.elim (fun h => HL3.out.1 g h) fun h => HL3.out.2 g h
    replace k0 := blk_chg k0 c6 (fun hs => by have := hS _ hs; omega)
    replace m0 := blk_chg m0 c6 (fun hs => by have := hS3 _ hs; omega)
    replace ck0 := k0.cell
    replace cm0 := m0.cell
    replace fk0 := k0.frozen
    replace fm0 := m0.frozen
    replace o1 := o1.chg c6 (fun g hg hs => by have := hS g hs; have := at1.out g hg; omega)
    replace u1 := u1.chg c6 (fun g hg hs => by have := hS g hs; have := au1.out g hg; omega)
    replace bb1 := bb1.trans (c6.below bb1.size fun i hi hs => by have := hS i hs; omega)
    have z6 := c6.size
    have hw : MWo kk ks.length fs.length w6 w2.heap.size _ := ⟨P2, p2, Q2, q2, R2, r2, A2, a2, B2, b2, AK2, cK2, AF2, cF2, rfl, m1, m2⟩
    clear hS hS3
    have t1 : decide (1 + (ks.length : Int) * 2 + (fs.length : Int) < 0) = false := decide_eq_false (by omega)
    go_wp2_with fail
    refine (heldWorld_em kk ks.length fs.length hlen _ w6 _ hw).mono ?_
    rintro e w7 ⟨rfl, b7⟩
    replace k0 := blk_keep k0 b7
    replace ck0 := k0.cell
    replace fk0 := k0.frozen
    replace m0 := blk_keep m0 b7
    replace cm0 := m0.cell
    replace fm0 := m0.frozen
    replace o1 := o1.below b7
    replace u1 := u1.below b7
    replace m1 := own_below' m1 b7
    replace m2 := m2.below b7
    replace bb1 := below_below bb1 b7
    clear hw
    go_wp2_with fail
    refine (HNEW.out w7).mono ?_
    rintro e w8 ⟨v3, rfl, e3, b8⟩
    replace k0 := blk_keep k0 b8
    replace ck0 := k0.cell
    replace fk0 := k0.frozen
    replace m0 := blk_keep m0 b8
    replace cm0 := m0.cell
    replace fm0 := m0.frozen
    replace o1 := o1.below b8
    replace u1 := u1.below b8
    replace m1 := own_below' m1 b8
    replace m2 := m2.below b8
    replace bb1 := below_below bb1 b8
    obtain ⟨P3, p3, Q3, q3, R3, r3, A3, a3, B3, b3', K3, F3, rfl, o3, u3⟩ := e3
    obtain ⟨AK3, cK3, rfl⟩ := o3.form
    obtain ⟨AF3, cF3, rfl⟩ := u3.form
    have ax := below_alloc w8 (.cells #[.int .i64 kk, .slice P3 0 p3, .slice Q3 0 q3, .slice R3 0 r3, .slice A3 0 a3, .slice B3 0 b3', .int .i64 0, .int .i64 0, .int .i64 0, .string ⟨#[]⟩, .slice AK3 ks.length cK3, .slice AF3 fs.length cF3] 34)
    have ka0 := (blk_keep k0 ax).cell
    have ma0 := (blk_keep m0 ax).cell
    go_wp2_with fail
    clear ax ka0 ma0
    have hbw9 : Below w8.heap.size w8 (w8.alloc (.cells #[.int .i64 kk, .slice P3 0 p3, .slice Q3 0 q3, .slice R3 0 r3, .slice A3 0 a3, .slice B3 0 b3', .int .i64 0, .int .i64 0, .int .i64 0, .string ⟨#[]⟩, .slice AK3 ks.length cK3, .slice AF3 fs.length cF3] 34)) := below_alloc _ _
    have n0 : Blk (w8.alloc (.cells #[.int .i64 kk, .slice P3 0 p3, .slice Q3 0 q3, .slice R3 0 r3, .slice A3 0 a3, .slice B3 0 b3', .int .i64 0, .int .i64 0, .int .i64 0, .string ⟨#[]⟩, .slice AK3 ks.length cK3, .slice AF3 fs.length cF3] 34)) (w8.heap.size) 34 #[.int .i64 kk, .slice P3 0 p3, .slice Q3 0 q3, .slice R3 0 r3, .slice A3 0 a3, .slice B3 0 b3', .int .i64 0, .int .i64 0, .int .i64 0, .string ⟨#[]⟩, .slice AK3 ks.length cK3, .slice AF3 fs.length cF3] := by
      have hk := Blk.new w8 34 #[.int .i64 kk, .slice P3 0 p3, .slice Q3 0 q3, .slice R3 0 r3, .slice A3 0 a3, .slice B3 0 b3', .int .i64 0, .int .i64 0, .int .i64 0, .string ⟨#[]⟩, .slice AK3 ks.length cK3, .slice AF3 fs.length cF3]
      exact hk
    have hsw9 : w8.heap.size + 1 ≤ (w8.alloc (.cells #[.int .i64 kk, .slice P3 0 p3, .slice Q3 0 q3, .slice R3 0 r3, .slice A3 0 a3, .slice B3 0 b3', .int .i64 0, .int .i64 0, .int .i64 0, .string ⟨#[]⟩, .slice AK3 ks.length cK3, .slice AF3 fs.length cF3] 34)).heap.size := by simp only [World.size_alloc]; omega
    generalize (w8.alloc (.cells #[.int .i64 kk, .slice P3 0 p3, .slice Q3 0 q3, .slice R3 0 r3, .slice A3 0 a3, .slice B3 0 b3', .int .i64 0, .int .i64 0, .int .i64 0, .string ⟨#[]⟩, .slice AK3 ks.length cK3, .slice AF3 fs.length cF3] 34)) = w9 at *
    have cn0 := n0.cell
    have fn0 := n0.frozen
    replace k0 := blk_keep k0 hbw9
    replace ck0 := k0.cell
    replace fk0 := k0.frozen
    replace m0 := blk_keep m0 hbw9
    replace cm0 := m0.cell
    replace fm0 := m0.frozen
    replace o1 := o1.below hbw9
    replace u1 := u1.below hbw9
    replace m1 := own_below' m1 hbw9
    replace m2 := m2.below hbw9
    replace o3 := o3.below hbw9
    replace u3 := u3.below hbw9
    replace bb1 := below_below bb1 hbw9
    refine (eqWorld_em kk ks fs HKS.out HFS.out _ _ w9 _ _ ⟨P3, p3, Q3, q3, R3, r3, A3, a3, B3, b3', _, _, rfl, o3, u3⟩ ⟨P1, p1, Q1, q1, R1, r1, A1, a1, B1, b1, _, _, rfl, o1, u1⟩).mono ?_
    rintro e wa ⟨rfl, ba⟩
    replace k0 := blk_keep k0 ba
    replace ck0 := k0.cell
    replace fk0 := k0.frozen
    replace m0 := blk_keep m0 ba
    replace cm0 := m0.cell
    replace fm0 := m0.frozen
    replace m1 := own_below' m1 ba
    replace m2 := m2.below ba
    replace bb1 := below_below bb1 ba
    have hw : MWo kk ks.length fs.length wa w2.heap.size _ := ⟨P2, p2, Q2, q2, R2, r2, A2, a2, B2, b2, AK2, cK2, AF2, cF2, rfl, m1, m2⟩
    go_wp2_with fail
    refine (heldWorld_em kk ks.length fs.length hlen _ wa _ hw).mono ?_
    rintro e wb ⟨rfl, bb⟩
    go_wp2_with fail
    go_ret
    exact ⟨rfl, below_below bb1 bb⟩

set_option maxRecDepth 100000 in
theorem lifted (os : Os) (started : os.Started) (H : Type) (enc : TypeId × Value → H) :
    ReturnsInHanded {} Try.checked os 3 .any (Rows.fnExactWorldNewSpec.pre6 enc Try.prog Try.f3 Rows.fnExactWorldNewRow.domain false) (Rows.fnExactWorldNewSpec.post enc Try.prog Try.f3 false true false false) := by
  refine law_lifted own started (by kernel_rfl) Try.func3 laidOut (by kernel_rfl) rfl Try.underlying4 rfl (fun ds hl => ?_)
    (ChangeSpec.witness6 (enc := enc) (C := Try.checked) false ⟨#[], #[.int .i64 0], []⟩ 8 (by kernel_rfl) (by kernel_rfl) (by kernel_rfl) (by kernel_rfl)) ?_
  · match ds, hl with
    | [_], _ => rfl
  intro W base args ds p hval0 hA hlt hsz hsh
  have hval : ∀ (j : Nat) t v, Try.f3.params[j]? = some t → args[j]? = some v → Value.okWide Try.prog W .any base t v := hval0
  rw [Try.params3] at hA hval
  obtain ⟨v0, d0, rfl, rfl, h0⟩ := trodAll_one hA
  obtain ⟨a0, rfl, rfl, rfl, w0⟩ := open_int Try.underlying3 (hval 0 3 v0 rfl rfl) h0
  exact walk a0 (in64_of_wf w0) W

set_option maxRecDepth 100000 in
theorem factsHold : joinedFacts Try.pinned.checked.prog 3 Try.f3 Rows.fnExactWorldNewSpec Rows.fnExactWorldNewRow = true := by
  unfold joinedFacts
  rw [liftsFinal, mayEnter, makeIs]
  kernel_rfl
set_option maxRecDepth 100000 in
theorem proved : Rows.FnExactWorldNewSaid :=
  OpenClaim.holds_of_wide 3 Try.f3 rfl rfl rfl rfl rfl rfl rfl ⟨rfl, rfl, rfl, rfl, rfl⟩ rfl rfl rfl rfl rfl (by kernel_rfl) Try.func3 factsHold
    (of_decide_eq_true (by kernel_rfl)) (by unfold Func.isWrapper; first | (rw [if_pos (by decide +kernel)]; kernel_rfl) | (rw [if_neg (by decide +kernel)]; exact ⟨rfl, rfl⟩))
    (fun os started H enc _ => lifted os started H enc)
#print axioms proved
end Go.Proofs.Ytalkkdhbccjepaa.lawewn
