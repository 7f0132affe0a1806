


/- The law FnRingMany: keys of a machine are counted. No condition. -/
import Derived.Test.YtdbeclnoaeiaeaaLaw
import Derived.Test.YtdbeclnoaeiaeaaDrX
import Derived.Test.YtdbeclnoaeiaeaaRgM
import Derived.Test.YtdbeclnoaeiaeaaHeard
import Derived.Test.YtdbeclnoaeiaeaaEnter
import Derived.Test.YtdbeclnoaeiaeaaMake
namespace Go.Proofs.Ytdbeclnoaeiaeaa.lawrm
open Go.RowKit Go.ChangeShapes Go.WideShapes Go.ChangeAt

/-- How many of the epochs below i a machine has the key of. -/
def cntTo (r : Rg) (m : Int) (i c : Nat) : Prop := (i = 0 ∧ c = 0) ∨ (1 ≤ i ∧ i ≤ r.keys.length + 1 ∧ cntIs r m (i - 1) c) ∨ (i = r.keys.length + 2 ∧ cntIs r m r.keys.length c)
theorem cntTo_step {r : Rg} {m k : Int} {ok : Bool} {i c : Nat} (hr : ringP r) (h : cntTo r m i c) (hi : i ≤ r.keys.length + 1) (hk : RKey r m i k ok) : cntTo r m (i + 1) (if ok then c + 1 else c) := by
  have hok := hk.ok_iff
  rcases h with ⟨rfl, rfl⟩ | ⟨h1, h2, h3⟩ | ⟨h1, _⟩
  · have : ok = false := by
      cases ok
      · rfl
      · have := hok.1 rfl; omega
    subst this
    exact .inr (.inl ⟨by omega, by omega, rfl⟩)
  · by_cases hlast : i = r.keys.length + 1
    · have : ok = false := by
        cases ok
        · rfl
        · have := hok.1 rfl; omega
      subst this
      refine .inr (.inr ⟨by omega, ?_⟩)
      rw [hlast, Nat.add_sub_cancel] at h3
      exact h3
    · refine .inr (.inl ⟨by omega, by omega, ?_⟩)
      have e : i + 1 - 1 = (i - 1) + 1 := by omega
      rw [e]
      have e2 : ((i - 1 + 1 : Nat) : Int) = (i : Int) := by omega
      refine ⟨c, h3, ?_⟩
      have e3 : ((i - 1 : Nat) : Int) + 1 = (i : Int) := by omega
      rw [e3]
      cases ok with
      | true => exact .inl ⟨(hok.1 rfl).2.2, rfl⟩
      | false => exact .inr ⟨fun hp => (by have := hok.2 ⟨hr, ⟨by omega, by omega⟩, hp⟩; cases this), rfl⟩
  · omega
theorem cntTo_le {r : Rg} {m : Int} {i c : Nat} (h : cntTo r m i c) : c ≤ r.keys.length := by
  rcases h with ⟨_, rfl⟩ | ⟨h1, h2, h3⟩ | ⟨_, h3⟩
  · omega
  · have := cnt_le h3; omega
  · exact cnt_le h3
set_option maxHeartbeats 2000000 in
theorem walk (l : List Int) {v : Value} {w : World} (h : RSl RByte 1 w 0 w.heap.size l [v]) (w' : World) (hw : w' = w := by rfl) :
    Calls Try.prog 9 #[v] w' fun e w' => e = .returned (.bool true) ∧ Below w.heap.size w w' := by
  subst hw
  obtain ⟨A, c, rfl⟩ := h.form
  have hlen : l.length ≤ maxLen := by obtain ⟨_, h1, h2⟩ := h.len_; omega
  unfold maxLen at hlen
  by_cases hbig : 1048576 < l.length
  · go_enter Try.func9, Try.ntmps9
    go_wp2_with fail
    go_ret
    exact ⟨rfl, Below.refl _ _⟩
  go_enter Try.func9, Try.ntmps9
  go_wp2_with fail
  refine (drawRingMany_any l A _ c _ h).mono ?_
  rintro e w1 ⟨va, vb, rr, m, rfl, o1, f1, hm, hbw⟩
  obtain ⟨n, hn⟩ := RMany_total rr m
  have HN := Lib.hid hn; clear hn
  have HF := Lib.hid f1; clear f1
  obtain ⟨A1, c1, rfl⟩ := o1.keys.form
  obtain ⟨B1, d1, rfl⟩ := o1.grs.form
  obtain ⟨rs1, rs2⟩ := o1.reads HF.out.good
  have hhi := Nat.le_refl w1.heap.size
  go_wp2_with fail
  have hbw2 : Below w1.heap.size w1 (w1.alloc (.cells #[.slice A1 rr.keys.length c1, .slice B1 rr.grs.length d1] 30)) := below_alloc _ _
  have k0 : Blk (w1.alloc (.cells #[.slice A1 rr.keys.length c1, .slice B1 rr.grs.length d1] 30)) (w1.heap.size) 30 #[.slice A1 rr.keys.length c1, .slice B1 rr.grs.length d1] := by
    have hk := Blk.new w1 30 #[.slice A1 rr.keys.length c1, .slice B1 rr.grs.length d1]
    exact hk
  have hsw2 : w1.heap.size + 1 ≤ (w1.alloc (.cells #[.slice A1 rr.keys.length c1, .slice B1 rr.grs.length d1] 30)).heap.size := by simp only [World.size_alloc]; omega
  generalize (w1.alloc (.cells #[.slice A1 rr.keys.length c1, .slice B1 rr.grs.length d1] 30)) = w2 at *
  have ck0 := k0.cell
  have fk0 := k0.frozen
  replace rs1 := sl_keep RInt.loc rs1 hbw2 hhi
  replace rs2 := sl_keep RGr.loc rs2 hbw2 hhi
  replace hhi := Nat.le_trans hhi hbw2.size
  replace hbw := below_below hbw hbw2
  refine (implRingMany_any rr m _ _ _ _ _ hhi rs1 rs2 n HN.out).mono ?_
  rintro e w3 ⟨rfl, b3⟩
  replace rs1 := sl_keep RInt.loc rs1 b3 hhi
  replace rs2 := sl_keep RGr.loc rs2 b3 hhi
  replace hhi := Nat.le_trans hhi b3.size
  replace hbw := below_below hbw b3
  replace k0 := blk_keep k0 b3
  replace ck0 := k0.cell
  replace fk0 := k0.frozen
  go_wp2_with fail
  refine (specRingMany_any rr m _ _ _ _ _ hhi rs1 rs2 n HN.out).mono ?_
  rintro e w4 ⟨rfl, b4⟩
  replace rs1 := sl_keep RInt.loc rs1 b4 hhi
  replace rs2 := sl_keep RGr.loc rs2 b4 hhi
  replace hhi := Nat.le_trans hhi b4.size
  replace hbw := below_below hbw b4
  replace k0 := blk_keep k0 b4
  replace ck0 := k0.cell
  replace fk0 := k0.frozen
  go_wp2_with fail
  by_cases hP : ringP rr
  · refine (specRingOk_any rr _ _ _ _ _ hhi rs1 rs2 true (by simp only [true_iff]; exact hP)).mono ?_
    rintro e w5 ⟨rfl, b5⟩
    have HP := Lib.hid hP; clear hP
    replace rs1 := sl_keep RInt.loc rs1 b5 hhi
    replace rs2 := sl_keep RGr.loc rs2 b5 hhi
    replace hhi := Nat.le_trans hhi b5.size
    replace hbw := below_below hbw b5
    replace k0 := blk_keep k0 b5
    replace ck0 := k0.cell
    replace fk0 := k0.frozen
    have hR := HN.out
    have hlen9 := HP.out.2.2.2
    go_wp2_with fail
    go_loopw [6, 7] (fun kk ee wr => ∃ i c : Nat, kk = .int .i64 c ∧ ee = .int .i64 i ∧ i ≤ rr.keys.length + 2 ∧ cntTo rr m i c ∧ c ≤ 100 ∧ Below w5.heap.size w5 wr) (fun kk ee _ => rr.keys.length + 2 - (intOf ee).toNat)
    case atStart => exact ⟨0, 0, rfl, rfl, by omega, .inl ⟨rfl, rfl⟩, by omega, Below.refl _ _⟩
    case round =>
      obtain ⟨i, cc, rfl, rfl, hi, hcnt, hc9, bw⟩ := hrel
      have HC := Lib.hid hcnt; clear hcnt
      replace rs1 := sl_keep RInt.loc rs1 bw hhi
      replace rs2 := sl_keep RGr.loc rs2 bw hhi
      replace hhi := Nat.le_trans hhi bw.size
      replace hbw := below_below hbw bw
      replace k0 := blk_keep k0 bw
      replace ck0 := k0.cell
      replace fk0 := k0.frozen
      by_cases hlt : i ≤ rr.keys.length + 1
      · have t1 : decide ((i : Int) ≤ (rr.keys.length : Int) + 1) = true := decide_eq_true (by omega)
        have t2 : decide (i ≤ rr.keys.length + 1) = true := decide_eq_true hlt
        obtain ⟨k, ok, hk⟩ := RKey_total rr m i
        have HK := Lib.hid hk; clear hk
        go_wp2_with fail
        refine (implRingKey_any rr m i _ _ _ _ _ hhi rs1 rs2 k ok HK.out).mono ?_
        rintro e w6 ⟨rfl, b6⟩
        have bw6 := below_below bw b6
        have hn := cntTo_step HP.out HC.out hlt HK.out
        have hle := cntTo_le hn
        cases ok with
        | true =>
          have HN2 := Lib.hid hn; clear hn
          go_wp2_with fail
          go_roundw
          case rel => exact ⟨i + 1, cc + 1, by go_num, by go_num, by omega, HN2.out, by simp at hle; omega, bw6⟩
          case measure => simp [intOf]; omega
        | false =>
          have HN2 := Lib.hid hn; clear hn
          go_wp2_with fail
          go_roundw
          case rel => exact ⟨i + 1, cc, by go_num, by go_num, by omega, HN2.out, by omega, bw6⟩
          case measure => simp [intOf]; omega
      · have t1 : decide ((i : Int) ≤ (rr.keys.length : Int) + 1) = false := decide_eq_false (by omega)
        have t2 : decide (i ≤ rr.keys.length + 1) = false := decide_eq_false hlt
        have he : cc = n := by
          rcases HC.out with ⟨h1, _⟩ | ⟨_, h2, _⟩ | ⟨_, h3⟩
          · omega
          · omega
          · rcases hR with ⟨_, h4⟩ | ⟨h4, _⟩
            · exact cnt_one h3 h4
            · exact absurd HP.out h4
        subst he
        clear hR
        go_wp2_with fail
        go_ret
        exact ⟨rfl, hbw⟩
  · refine (specRingOk_any rr _ _ _ _ _ hhi rs1 rs2 false (by simp only [Bool.false_eq_true, false_iff]; exact hP)).mono ?_
    rintro e w5 ⟨rfl, b5⟩
    replace rs1 := sl_keep RInt.loc rs1 b5 hhi
    replace rs2 := sl_keep RGr.loc rs2 b5 hhi
    replace hhi := Nat.le_trans hhi b5.size
    replace hbw := below_below hbw b5
    replace k0 := blk_keep k0 b5
    replace ck0 := k0.cell
    replace fk0 := k0.frozen
    go_wp2_with fail
    refine (specRingMany_any rr m _ _ _ _ _ hhi rs1 rs2 n HN.out).mono ?_
    rintro e w6 ⟨rfl, b6⟩
    replace rs1 := sl_keep RInt.loc rs1 b6 hhi
    replace rs2 := sl_keep RGr.loc rs2 b6 hhi
    replace hhi := Nat.le_trans hhi b6.size
    replace hbw := below_below hbw b6
    replace k0 := blk_keep k0 b6
    replace ck0 := k0.cell
    replace fk0 := k0.frozen
    go_wp2_with fail
    go_ret
    exact ⟨rfl, hbw⟩

set_option maxRecDepth 100000 in
theorem lifted (os : Os) (started : os.Started) (H : Type) (enc : TypeId × Value → H) :
    ReturnsInHanded {} Try.checked os 9 .any (Rows.fnRingManySpec.pre6 enc Try.prog Try.f9 Rows.fnRingManyRow.domain false) (Rows.fnRingManySpec.post enc Try.prog Try.f9 false true false false) := by
  refine law_lifted own started (by kernel_rfl) Try.func9 laidOut (by kernel_rfl) rfl Try.underlying4 rfl (fun ds hl => ?_)
    (ChangeSpec.witness6 (enc := enc) (C := Try.checked) false ⟨#[], #[.slice none 0 0], []⟩ 8 (by kernel_rfl) (by kernel_rfl) (by kernel_rfl) (by kernel_rfl)) ?_
  · match ds, hl with
    | [_], _ => rfl
  intro W base args ds p hval0 hA hlt hsz hsh
  have hval : ∀ (j : Nat) t v, Try.f9.params[j]? = some t → args[j]? = some v → Value.okWide Try.prog W .any base t v := hval0
  rw [Try.params9] at hA hval
  obtain ⟨v0, d0, rfl, rfl, h0⟩ := trodAll_one hA
  obtain ⟨a0_0, r0⟩ := open_byte_slice (hval 0 34 v0 rfl rfl) h0 (by first | exact hlt | exact fun x hx => hlt x (by simp [hx]))
  exact walk a0_0 r0 W

set_option maxRecDepth 100000 in
theorem factsHold : joinedFacts Try.pinned.checked.prog 9 Try.f9 Rows.fnRingManySpec Rows.fnRingManyRow = true := by
  unfold joinedFacts
  rw [liftsFinal, mayEnter, makeIs]
  kernel_rfl
set_option maxRecDepth 100000 in
theorem proved : Rows.FnRingManySaid :=
  OpenClaim.holds_of_wide 9 Try.f9 rfl rfl rfl rfl rfl rfl rfl ⟨rfl, rfl, rfl, rfl, rfl⟩ rfl rfl rfl rfl rfl (by kernel_rfl) Try.func9 factsHold
    (of_decide_eq_true (by kernel_rfl)) (by unfold Func.isWrapper; first | (rw [if_pos (by decide +kernel)]; kernel_rfl) | (rw [if_neg (by decide +kernel)]; exact ⟨rfl, rfl⟩))
    (fun os started H enc _ => lifted os started H enc)
#print axioms proved
end Go.Proofs.Ytdbeclnoaeiaeaa.lawrm
