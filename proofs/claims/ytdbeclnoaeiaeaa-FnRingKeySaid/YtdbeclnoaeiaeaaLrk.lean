


/- The law FnRingKey: a machine has the key of an epoch, if its grant says so. No condition. -/
import Derived.Test.YtdbeclnoaeiaeaaLaw
import Derived.Test.YtdbeclnoaeiaeaaDrX
import Derived.Test.YtdbeclnoaeiaeaaRgK
import Derived.Test.YtdbeclnoaeiaeaaHeard
import Derived.Test.YtdbeclnoaeiaeaaEnter
import Derived.Test.YtdbeclnoaeiaeaaMake
namespace Go.Proofs.Ytdbeclnoaeiaeaa.lawrk
open Go.RowKit Go.ChangeShapes Go.WideShapes Go.ChangeAt

/-- Whether one of the first j grants gives it. -/
def canTo (r : Rg) (m e : Int) (j : Nat) (b : Bool) : Prop := b = true ↔ ∃ y ∈ r.grs.take j, gives m e y
theorem canTo_step {r : Rg} {m e : Int} {j : Nat} {b : Bool} {x : Gr} (h : canTo r m e j b) (hx : r.grs[j]? = some x) {b' : Bool} (hb : b' = true ↔ b = true ∨ gives m e x) : canTo r m e (j + 1) b' := by
  unfold canTo at *
  rw [hb, h, take_succ hx]
  constructor
  · rintro (⟨y, hy, hg⟩ | hg)
    · exact ⟨y, List.mem_append_left _ hy, hg⟩
    · exact ⟨x, by simp, hg⟩
  · rintro ⟨y, hy, hg⟩
    rcases List.mem_append.1 hy with hy | hy
    · exact .inl ⟨y, hy, hg⟩
    · rw [List.mem_singleton.1 hy] at hg; exact .inr hg
set_option maxHeartbeats 4000000 in
theorem walk (l : List Int) {v : Value} {w : World} (h : RSl RByte 1 w 0 w.heap.size l [v]) (w' : World) (hw : w' = w := by rfl) :
    Calls Try.prog 6 #[v] w' fun e w' => e = .returned (.bool true) ∧ Below w.heap.size w w' := by
  subst hw
  obtain ⟨A, c, rfl⟩ := h.form
  have hlen : l.length ≤ maxLen := by obtain ⟨_, h1, h2⟩ := h.len_; omega
  unfold maxLen at hlen
  by_cases hbig : 1048576 < l.length
  · go_enter Try.func6, Try.ntmps6
    go_wp2_with fail
    go_ret
    exact ⟨rfl, Below.refl _ _⟩
  go_enter Try.func6, Try.ntmps6
  go_wp2_with fail
  refine (drawRingKey_any l A _ c _ h).mono ?_
  rintro e w1 ⟨va, vb, rr, m, ep, rfl, o1, f1, hm, hep, hbw⟩
  obtain ⟨k, ok, hk⟩ := RKey_total rr m ep
  have HK := Lib.hid hk; clear hk
  have HF := Lib.hid f1; clear f1
  obtain ⟨A1, c1, rfl⟩ := o1.keys.form
  obtain ⟨B1, d1, rfl⟩ := o1.grs.form
  obtain ⟨rs1, rs2⟩ := o1.reads HF.out.good
  have hhi := Nat.le_refl w1.heap.size
  go_wp2_with fail
  have hbw2 : Below w1.heap.size w1 (w1.alloc (.cells #[.slice A1 rr.keys.length c1, .slice B1 rr.grs.length d1] 30)) := below_alloc _ _
  have k0 : Blk (w1.alloc (.cells #[.slice A1 rr.keys.length c1, .slice B1 rr.grs.length d1] 30)) (w1.heap.size) 30 #[.slice A1 rr.keys.length c1, .slice B1 rr.grs.length d1] := by
    have hk := Blk.new w1 30 #[.slice A1 rr.keys.length c1, .slice B1 rr.grs.length d1]
    exact hk
  have hsw2 : w1.heap.size + 1 ≤ (w1.alloc (.cells #[.slice A1 rr.keys.length c1, .slice B1 rr.grs.length d1] 30)).heap.size := by simp only [World.size_alloc]; omega
  generalize (w1.alloc (.cells #[.slice A1 rr.keys.length c1, .slice B1 rr.grs.length d1] 30)) = w2 at *
  have ck0 := k0.cell
  have fk0 := k0.frozen
  replace rs1 := sl_keep RInt.loc rs1 hbw2 hhi
  replace rs2 := sl_keep RGr.loc rs2 hbw2 hhi
  replace hhi := Nat.le_trans hhi hbw2.size
  replace hbw := below_below hbw hbw2
  refine (specRingKey_any rr m ep _ _ _ _ _ hhi rs1 rs2 k ok HK.out).mono ?_
  rintro e w3 ⟨rfl, b3⟩
  replace rs1 := sl_keep RInt.loc rs1 b3 hhi
  replace rs2 := sl_keep RGr.loc rs2 b3 hhi
  replace hhi := Nat.le_trans hhi b3.size
  replace hbw := below_below hbw b3
  replace k0 := blk_keep k0 b3
  replace ck0 := k0.cell
  replace fk0 := k0.frozen
  go_wp2_with fail
  refine (implRingKey_any rr m ep _ _ _ _ _ hhi rs1 rs2 k ok HK.out).mono ?_
  rintro e w4 ⟨rfl, b4⟩
  replace rs1 := sl_keep RInt.loc rs1 b4 hhi
  replace rs2 := sl_keep RGr.loc rs2 b4 hhi
  replace hhi := Nat.le_trans hhi b4.size
  replace hbw := below_below hbw b4
  replace k0 := blk_keep k0 b4
  replace ck0 := k0.cell
  replace fk0 := k0.frozen
  go_wp2_with fail
  by_cases hP : ringP rr
  · refine (specRingOk_any rr _ _ _ _ _ hhi rs1 rs2 true (by simp only [true_iff]; exact hP)).mono ?_
    rintro e w5 ⟨rfl, b5⟩
    have HP := Lib.hid hP; clear hP
    have hlen12 := HF.out.keys
    have hgr12 := HF.out.grs
    replace rs1 := sl_keep RInt.loc rs1 b5 hhi
    replace rs2 := sl_keep RGr.loc rs2 b5 hhi
    replace hhi := Nat.le_trans hhi b5.size
    replace hbw := below_below hbw b5
    replace k0 := blk_keep k0 b5
    replace ck0 := k0.cell
    replace fk0 := k0.frozen
    go_wp2_with fail
    go_loopw [10, 11] (fun cc ii wr => ∃ (j : Nat) (b : Bool), j ≤ rr.grs.length ∧ cc = .bool b ∧ ii = .int .i64 j ∧ canTo rr m ep j b ∧ Below w5.heap.size w5 wr) (fun cc ii _ => rr.grs.length - (intOf ii).toNat)
    case atStart => exact ⟨0, false, Nat.zero_le _, rfl, rfl, by simp [canTo], Below.refl _ _⟩
    case round =>
      obtain ⟨j, b, hj, rfl, rfl, hcan, bw⟩ := hrel
      have HC := Lib.hid hcan; clear hcan
      replace rs1 := sl_keep RInt.loc rs1 bw hhi
      replace rs2 := sl_keep RGr.loc rs2 bw hhi
      replace hhi := Nat.le_trans hhi bw.size
      replace hbw := below_below hbw bw
      replace k0 := blk_keep k0 bw
      replace ck0 := k0.cell
      replace fk0 := k0.frozen
      by_cases hlt : j < rr.grs.length
      · obtain ⟨x, hxk⟩ := some_of_lt hlt
        obtain ⟨b1, off, rfl, _, _, h64, hcell, hcell1, hcell2⟩ := rs2.grs_at hxk
        have HX := Lib.hid hxk; clear hxk
        have ba := below_alloc wr (.cells #[.int .i64 x.m, .int .i64 x.f, .int .i64 x.t] 37)
        cases b with
        | true =>
          have hn := canTo_step HC.out HX.out (b' := true) (by simp)
          have HN := Lib.hid hn; clear hn
          go_wp2_with fail
          go_roundw
          case rel => exact ⟨j + 1, true, by omega, rfl, by go_num, HN.out, below_below bw ba⟩
          case measure => simp [intOf]; omega
        | false =>
          by_cases q : gives m ep x
          · have hn := canTo_step HC.out HX.out (b' := true) (by simp [q])
            have HN := Lib.hid hn; clear hn
            obtain ⟨q1, q2, q3⟩ := q
            have t1 : (x.m == m) = true := beq_iff_eq.2 q1
            clear q1
            by_cases q4 : x.t = 0
            · have t2 : (x.t == 0) = true := beq_iff_eq.2 q4
              clear q4 q3
              go_wp2_with fail
              go_roundw
              case rel => exact ⟨j + 1, true, by omega, rfl, by go_num, HN.out, below_below bw ba⟩
              case measure => simp [intOf]; omega
            · have t2 : (x.t == 0) = false := beq_eq_false_iff_ne.2 q4
              have t3 : ep ≤ x.t := by rcases q3 with h | h; exact absurd h q4; exact h
              clear q4 q3
              go_wp2_with fail
              go_roundw
              case rel => exact ⟨j + 1, true, by omega, rfl, by go_num, HN.out, below_below bw ba⟩
              case measure => simp [intOf]; omega
          · have hn := canTo_step HC.out HX.out (b' := false) (by simp [q])
            have HN := Lib.hid hn; clear hn
            have hall : (x.m == m) = false ∨ ((x.m == m) = true ∧ ¬ x.f ≤ ep) ∨ ((x.m == m) = true ∧ x.f ≤ ep ∧ (x.t == 0) = false ∧ ¬ ep ≤ x.t) := by
              by_cases a : x.m = m
              · by_cases b : x.f ≤ ep
                · refine .inr (.inr ⟨beq_iff_eq.2 a, b, ?_, ?_⟩)
                  · rw [beq_eq_false_iff_ne]; exact fun h => q ⟨a, b, .inl h⟩
                  · exact fun h => q ⟨a, b, .inr h⟩
                · exact .inr (.inl ⟨beq_iff_eq.2 a, b⟩)
              · exact .inl (beq_eq_false_iff_ne.2 a)
            clear q
            rcases hall with t1 | ⟨t1, t2⟩ | ⟨t1, t2, t3, t4⟩
            all_goals
              go_wp2_with fail
              go_roundw
              case rel => exact ⟨j + 1, false, by omega, rfl, by go_num, HN.out, below_below bw ba⟩
              case measure => simp [intOf]; omega
      · obtain rfl : j = rr.grs.length := by omega
        have hb : b = true ↔ keyP rr m ep := by
          have := HC.out
          unfold canTo at this
          rw [List.take_length] at this
          exact this
        clear HC
        have hok := HK.out.ok_iff
        by_cases hin : 1 ≤ ep ∧ ep ≤ rr.keys.length
        · have hbo : b = ok := by
            rw [Bool.eq_iff_iff, hb, hok]
            exact ⟨fun h => ⟨HP.out, hin, h⟩, fun h => h.2.2⟩
          subst hbo
          obtain ⟨i1, i2⟩ := hin
          clear hb hok
          cases b with
          | true =>
            have hkk : rr.keys[(ep - 1).toNat]? = some k := by
              rcases HK.out with ⟨_, _, h⟩ | ⟨h, _⟩
              · exact h
              · cases h
            obtain ⟨b2, off2, rfl, _, _, _, hcell3⟩ := rs1.ints_at hkk
            obtain ⟨en, rfl⟩ := Int.eq_ofNat_of_zero_le (a := ep) (by omega)
            have he : ((en : Int) - 1).toNat = en - 1 := by omega
            rw [he] at hcell3
            have HKK := Lib.hid hkk; clear hkk
            go_wp2_with fail
            go_ret
            exact ⟨rfl, hbw⟩
          | false =>
            go_wp2_with fail
            go_ret
            exact ⟨rfl, hbw⟩
        · have hof : ok = false := by
            cases ok
            · rfl
            · exact absurd (hok.1 rfl).2.1 hin
          subst hof
          clear hb hok
          have : ep < 1 ∨ (1 ≤ ep ∧ (rr.keys.length : Int) < ep) := by omega
          clear hin
          rcases this with t1 | ⟨t1, t2⟩
          · go_wp2_with fail
            go_ret
            exact ⟨rfl, hbw⟩
          · go_wp2_with fail
            go_ret
            exact ⟨rfl, hbw⟩
  · refine (specRingOk_any rr _ _ _ _ _ hhi rs1 rs2 false (by simp only [Bool.false_eq_true, false_iff]; exact hP)).mono ?_
    rintro e w5 ⟨rfl, b5⟩
    replace rs1 := sl_keep RInt.loc rs1 b5 hhi
    replace rs2 := sl_keep RGr.loc rs2 b5 hhi
    replace hhi := Nat.le_trans hhi b5.size
    replace hbw := below_below hbw b5
    replace k0 := blk_keep k0 b5
    replace ck0 := k0.cell
    replace fk0 := k0.frozen
    go_wp2_with fail
    go_ret
    exact ⟨rfl, hbw⟩

set_option maxRecDepth 100000 in
theorem lifted (os : Os) (started : os.Started) (H : Type) (enc : TypeId × Value → H) :
    ReturnsInHanded {} Try.checked os 6 .any (Rows.fnRingKeySpec.pre6 enc Try.prog Try.f6 Rows.fnRingKeyRow.domain false) (Rows.fnRingKeySpec.post enc Try.prog Try.f6 false true false false) := by
  refine law_lifted own started (by kernel_rfl) Try.func6 laidOut (by kernel_rfl) rfl Try.underlying4 rfl (fun ds hl => ?_)
    (ChangeSpec.witness6 (enc := enc) (C := Try.checked) false ⟨#[], #[.slice none 0 0], []⟩ 8 (by kernel_rfl) (by kernel_rfl) (by kernel_rfl) (by kernel_rfl)) ?_
  · match ds, hl with
    | [_], _ => rfl
  intro W base args ds p hval0 hA hlt hsz hsh
  have hval : ∀ (j : Nat) t v, Try.f6.params[j]? = some t → args[j]? = some v → Value.okWide Try.prog W .any base t v := hval0
  rw [Try.params6] at hA hval
  obtain ⟨v0, d0, rfl, rfl, h0⟩ := trodAll_one hA
  obtain ⟨a0_0, r0⟩ := open_byte_slice (hval 0 34 v0 rfl rfl) h0 (by first | exact hlt | exact fun x hx => hlt x (by simp [hx]))
  exact walk a0_0 r0 W

set_option maxRecDepth 100000 in
theorem factsHold : joinedFacts Try.pinned.checked.prog 6 Try.f6 Rows.fnRingKeySpec Rows.fnRingKeyRow = true := by
  unfold joinedFacts
  rw [liftsFinal, mayEnter, makeIs]
  kernel_rfl
set_option maxRecDepth 100000 in
theorem proved : Rows.FnRingKeySaid :=
  OpenClaim.holds_of_wide 6 Try.f6 rfl rfl rfl rfl rfl rfl rfl ⟨rfl, rfl, rfl, rfl, rfl⟩ rfl rfl rfl rfl rfl (by kernel_rfl) Try.func6 factsHold
    (of_decide_eq_true (by kernel_rfl)) (by unfold Func.isWrapper; first | (rw [if_pos (by decide +kernel)]; kernel_rfl) | (rw [if_neg (by decide +kernel)]; exact ⟨rfl, rfl⟩))
    (fun os started H enc _ => lifted os started H enc)
#print axioms proved
end Go.Proofs.Ytdbeclnoaeiaeaa.lawrk
