


/- The reference's index: a spot is put in. -/
import Derived.Test.YtpdkgpbfmpekgaaGreatDoorIx
namespace Go.Proofs.YtpdkgpbfmpekgaaGreatDoor
open Go.RowKit

/-- What has been built when xs have been looked at. -/
def putSt (s : Sp) (xs : List Sp) (put : Bool) (o : List Sp) : Prop :=
  (put = false ∧ (∀ x ∈ xs, x.n < s.n) ∧ o = xs) ∨ (put = true ∧ (∃ x ∈ xs, s.n ≤ x.n) ∧ o = putS s xs)
theorem putSt_nil (s : Sp) : putSt s [] false [] := .inl ⟨rfl, fun x hx => (by cases hx), rfl⟩
theorem putSt_hit {s x : Sp} {xs o : List Sp} (h : putSt s xs false o) (hx : s.n < x.n) : putSt s (xs ++ [x]) true (o ++ [s] ++ [x]) := by
  rcases h with ⟨_, h, rfl⟩ | ⟨h, _⟩
  · refine .inr ⟨rfl, ⟨x, by simp, by omega⟩, ?_⟩
    rw [putS_mid h]
    show _ = o ++ (if s.n < x.n then s :: x :: [] else _)
    rw [if_pos hx]; simp
  · cases h
theorem putSt_same {s x : Sp} {xs o : List Sp} (h : putSt s xs false o) (hx : x.n = s.n) : putSt s (xs ++ [x]) true (o ++ [s]) := by
  rcases h with ⟨_, h, rfl⟩ | ⟨h, _⟩
  · refine .inr ⟨rfl, ⟨x, by simp, by omega⟩, ?_⟩
    rw [putS_mid h]
    show _ = o ++ (if s.n < x.n then s :: x :: [] else if x.n < s.n then x :: putS s [] else s :: [])
    rw [if_neg (by omega), if_neg (by omega)]
  · cases h
theorem putSt_less {s x : Sp} {xs o : List Sp} (h : putSt s xs false o) (hx : x.n < s.n) : putSt s (xs ++ [x]) false (o ++ [x]) := by
  rcases h with ⟨_, h, rfl⟩ | ⟨h, _⟩
  · refine .inl ⟨rfl, fun y hy => ?_, rfl⟩
    rcases List.mem_append.1 hy with hy | hy
    · exact h y hy
    · rw [List.mem_singleton.1 hy]; exact hx
  · cases h
theorem putSt_past {s x : Sp} {xs o : List Sp} (h : putSt s xs true o) (ha : ascS (xs ++ [x])) : s.n < x.n ∧ putSt s (xs ++ [x]) true (o ++ [x]) := by
  rcases h with ⟨h, _⟩ | ⟨_, ⟨y, hy, hs⟩, rfl⟩
  · cases h
  · have := (List.pairwise_append.1 ha).2.2 y hy x (by simp)
    refine ⟨by omega, .inr ⟨rfl, ⟨y, by simp [hy], hs⟩, ?_⟩⟩
    rw [show xs ++ [x] = xs ++ x :: [] from rfl, putS_left (by omega)]
theorem putSt_end {s : Sp} {xs o : List Sp} {put : Bool} (h : putSt s xs put o) : (put = false ∧ putS s xs = o ++ [s]) ∨ (put = true ∧ putS s xs = o) := by
  rcases h with ⟨h, h1, rfl⟩ | ⟨h, _, rfl⟩
  · exact .inl ⟨h, putS_last h1⟩
  · exact .inr ⟨h, rfl⟩
theorem putSt_len {s : Sp} {xs o : List Sp} {put : Bool} (h : putSt s xs put o) : o.length ≤ xs.length + 1 := by
  rcases h with ⟨_, _, rfl⟩ | ⟨_, _, rfl⟩
  · omega
  · exact putS_len
theorem asc_take {xs : List Sp} (h : ascS xs) (k : Nat) : ascS (xs.take k) := List.Pairwise.sublist (List.take_sublist k xs) h

/-- A new slice of spots. -/
def NewSp (w : World) (ys : List Sp) (e : Ending) (w' : World) : Prop := ∃ v, e = .returned v ∧ OwnF FSp 146 w' w.heap.size v ys ∧ Below w.heap.size w w'
theorem cell_chg {w w' : World} {p : Addr} {v : Value} (h : w.cell? p = some v) {S : Nat → Prop} (hc : Chg S w w') (hS : ¬ S p.block) : w'.cell? p = some v := by
  have hlt := World.block_lt_of_cell? w p h
  unfold World.cell? at h ⊢
  rw [hc.block p.block hlt hS]
  exact h
set_option maxHeartbeats 4000000 in
theorem l4Put_any (s : Sp) (h64 : In64 s.n ∧ In64 s.p) (xs : List Sp) (v : Value) (w : World) (lo hi : Nat) (hhi : hi ≤ w.heap.size) (h : RSl RSp 2 w lo hi xs [v]) (hasc : ascS xs) (hl : xs.length ≤ 1000000000) :
    Calls Tryz.prog 236 #[v, .agg #[.int .i64 s.n, .int .i64 s.p]] w (NewSp w (putS s xs)) := by
  obtain ⟨A, c, rfl⟩ := h.form
  obtain ⟨_, hc, hx⟩ := h.len_
  unfold maxLen at hx
  go_enter Tryz.func236, Tryz.ntmps236
  go_wp2_with fail
  have hbw0 : Below w.heap.size w ((w.alloc (.cells #[.int .i64 s.n, .int .i64 s.p] 146)).alloc (.cells #[] 146)) := below_alloc' (below_alloc _ _) _
  have k0 : Blk ((w.alloc (.cells #[.int .i64 s.n, .int .i64 s.p] 146)).alloc (.cells #[] 146)) (w.heap.size) 146 #[.int .i64 s.n, .int .i64 s.p] := by
    have hk := blk_alloc (Blk.new w 146 #[.int .i64 s.n, .int .i64 s.p]) (.cells #[] 146)
    exact hk
  have k1 : Blk ((w.alloc (.cells #[.int .i64 s.n, .int .i64 s.p] 146)).alloc (.cells #[] 146)) (w.heap.size + 1) 146 #[] := by
    have hk := Blk.new (w.alloc (.cells #[.int .i64 s.n, .int .i64 s.p] 146)) 146 #[]
    simp only [World.size_alloc] at hk
    exact hk
  have hsw0 : w.heap.size + 2 ≤ ((w.alloc (.cells #[.int .i64 s.n, .int .i64 s.p] 146)).alloc (.cells #[] 146)).heap.size := by simp only [World.size_alloc]; omega
  generalize ((w.alloc (.cells #[.int .i64 s.n, .int .i64 s.p] 146)).alloc (.cells #[] 146)) = w0 at *
  have ck0 := k0.cell
  have fk0 := k0.frozen
  have ck1 := k1.cell
  have fk1 := k1.frozen
  have hsw0' : w.heap.size + 1 ≤ w0.heap.size := by omega
  have g0 := sl_keep RSp.loc h hbw0 hhi
  have o0 : OwnF FSp 146 w0 (w.heap.size + 1) (.slice (some ⟨w.heap.size + 1, 0, none⟩) 0 0) [] := OwnF.lit0 ⟨_, rfl, Nat.le_refl _, k1⟩
  have hx1 : ∀ k, k < xs.length → ∃ x, xs[k]? = some x ∧ (k = 0 ∨ True) := fun k hk => by
    obtain ⟨x, hx⟩ := some_of_lt hk
    exact ⟨x, hx, .inr trivial⟩
  clear hx1
  go_loopw [5, 6, 7] (fun oo pp ii wr => ∃ (k : Nat) (b : Bool) (o : List Sp), k ≤ xs.length ∧ pp = .bool b ∧ ii = .int .i64 k ∧ OwnF FSp 146 wr (w.heap.size + 1) oo o ∧ putSt s (xs.take k) b o ∧ Chg (fun b => w.heap.size + 1 ≤ b) w0 wr) (fun oo pp ii _ => xs.length - (intOf ii).toNat)
  case atStart => exact ⟨0, false, [], Nat.zero_le _, rfl, rfl, o0, putSt_nil s, Chg.refl _ _⟩
  case round =>
    obtain ⟨k, b, o, hk, rfl, rfl, ho, hst, hcr⟩ := hrel
    have HO := Lib.hid hst; clear hst
    obtain ⟨A0, c0, rfl⟩ := ho.form
    have hol := putSt_len HO.out
    rw [List.length_take] at hol
    by_cases hlt : k < xs.length
    · obtain ⟨x, hxk⟩ := some_of_lt hlt
      obtain ⟨b1, off, rfl, hb1, hb2, hx64, hcell0, hcell10⟩ := sp_at g0 hxk
      have hasc1 : ascS (xs.take k ++ [x]) := by rw [← take_succ hxk]; exact asc_take hasc _
      have HX := Lib.hid hxk; clear hxk
      have HA := Lib.hid hasc1; clear hasc1
      have ck0 := (blk_chg k0 hcr (by omega)).cell
      have hcell := cell_chg hcell0 hcr (by dsimp only; omega)
      have hcell1 := cell_chg hcell10 hcr (by dsimp only; omega)
      cases b with
      | false =>
        rcases Int.lt_trichotomy x.n s.n with hxs | hxs | hxs
        · have HN := Lib.hid (putSt_less HO.out hxs)
          have t1 : decide (s.n ≤ x.n) = false := decide_eq_false (by omega)
          have t2 : (x.n != s.n) = true := by rw [bne_iff_ne]; omega
          clear hxs
          go_wp2_with fail
          go_quiet (fail)
          revert nq
          intro nq1
          go_wp2_with fail
          go_quiet (fail)
          have ho2 : OwnF FSp 146 (wr.drewN (nq1 + nq)) (w.heap.size + 1) (.slice A0 o.length c0) o := ho
          go_wp2_with (at_builtin; refine app_flat (F := FSp) (v := .slice A0 o.length c0) rfl (.tmp 39) (.tmp 44) 89 rfl elem_sp x rfl ho2 rfl rfl (by have := putSt_len HO.out; rw [List.length_take] at this; first | omega | (simp; omega)) (Nat.le_trans hsw0' ((hcr.drewN (nq1 + nq))).size) ?_; intro v3 w3 o3 ch3 at3; obtain ⟨A3, c3, rfl⟩ := o3.form; simp only [List.length_append, List.length_cons, List.length_nil, Nat.zero_add] at o3; have hc3 := ((hcr.drewN (nq1 + nq))).trans (ch3.mono (T := fun b => w.heap.size + 1 ≤ b) fun b _ hb => ((ho2).at_ hb).1) fun _ _ h => h; skip)
          go_roundw
          case rel => exact ⟨k + 1, false, o ++ [x], by omega, rfl, by go_num, o3, by rw [take_succ HX.out]; exact HN.out, hc3⟩
          case measure => simp [intOf]; omega
        · have HN := Lib.hid (putSt_same HO.out hxs)
          have t1 : decide (s.n ≤ x.n) = true := decide_eq_true (by omega)
          have t2 : (x.n != s.n) = false := by rw [bne_eq_false_iff_eq]; exact hxs
          clear hxs
          go_wp2_with fail
          go_quiet (fail)
          revert nq
          intro nq1
          have ho2 : OwnF FSp 146 (wr.drewN nq1) (w.heap.size + 1) (.slice A0 o.length c0) o := ho
          go_wp2_with (at_builtin; refine app_flat (F := FSp) (v := .slice A0 o.length c0) rfl (.tmp 27) (.tmp 29) 89 rfl elem_sp s rfl ho2 rfl rfl (by have := putSt_len HO.out; rw [List.length_take] at this; first | omega | (simp; omega)) (Nat.le_trans hsw0' ((hcr.drewN nq1)).size) ?_; intro v3 w3 o3 ch3 at3; obtain ⟨A3, c3, rfl⟩ := o3.form; simp only [List.length_append, List.length_cons, List.length_nil, Nat.zero_add] at o3; have hc3 := ((hcr.drewN nq1)).trans (ch3.mono (T := fun b => w.heap.size + 1 ≤ b) fun b _ hb => ((ho2).at_ hb).1) fun _ _ h => h; have ck3 := (blk_chg k0 hc3 (by omega)).cell; have hd3 := cell_chg hcell0 hc3 (by dsimp only; omega); have he3 := cell_chg hcell10 hc3 (by dsimp only; omega))
          go_quiet (fail)
          go_wp2_with fail
          go_roundw
          case rel => exact ⟨k + 1, true, o ++ [s], by omega, rfl, by go_num, o3, by rw [take_succ HX.out]; exact HN.out, hc3.drewN nq⟩
          case measure => simp [intOf]; omega
        · have HN := Lib.hid (putSt_hit HO.out hxs)
          have t1 : decide (s.n ≤ x.n) = true := decide_eq_true (by omega)
          have t2 : (x.n != s.n) = true := by rw [bne_iff_ne]; omega
          clear hxs
          go_wp2_with fail
          go_quiet (fail)
          revert nq
          intro nq1
          have ho2 : OwnF FSp 146 (wr.drewN nq1) (w.heap.size + 1) (.slice A0 o.length c0) o := ho
          go_wp2_with (at_builtin; refine app_flat (F := FSp) (v := .slice A0 o.length c0) rfl (.tmp 27) (.tmp 29) 89 rfl elem_sp s rfl ho2 rfl rfl (by have := putSt_len HO.out; rw [List.length_take] at this; first | omega | (simp; omega)) (Nat.le_trans hsw0' ((hcr.drewN nq1)).size) ?_; intro v3 w3 o3 ch3 at3; obtain ⟨A3, c3, rfl⟩ := o3.form; simp only [List.length_append, List.length_cons, List.length_nil, Nat.zero_add] at o3; have hc3 := ((hcr.drewN nq1)).trans (ch3.mono (T := fun b => w.heap.size + 1 ≤ b) fun b _ hb => ((ho2).at_ hb).1) fun _ _ h => h; have ck3 := (blk_chg k0 hc3 (by omega)).cell; have hd3 := cell_chg hcell0 hc3 (by dsimp only; omega); have he3 := cell_chg hcell10 hc3 (by dsimp only; omega))
          go_quiet (fail)
          have ho4 : OwnF FSp 146 (w3.drewN nq) (w.heap.size + 1) (.slice A3 (o.length + 1) c3) (o ++ [s]) := o3
          go_wp2_with (at_builtin; refine app_flat (F := FSp) (v := .slice A3 (o.length + 1) c3) rfl (.tmp 39) (.tmp 44) 89 rfl elem_sp x rfl ho4 rfl rfl (by have := putSt_len HO.out; rw [List.length_take] at this; first | omega | (simp; omega)) (Nat.le_trans hsw0' ((hc3.drewN nq)).size) ?_; intro v4 w4 o4 ch4 at4; obtain ⟨A4, c4, rfl⟩ := o4.form; simp only [List.length_append, List.length_cons, List.length_nil, Nat.zero_add] at o4; have hc4 := ((hc3.drewN nq)).trans (ch4.mono (T := fun b => w.heap.size + 1 ≤ b) fun b _ hb => ((ho4).at_ hb).1) fun _ _ h => h; skip)
          go_roundw
          case rel => exact ⟨k + 1, true, o ++ [s] ++ [x], by omega, rfl, by go_num, o4, by rw [take_succ HX.out]; exact HN.out, hc4⟩
          case measure => simp [intOf]; omega
      | true =>
        obtain ⟨hxs, hst'⟩ := putSt_past HO.out HA.out
        have HN := Lib.hid hst'; clear hst'
        have t2 : (x.n != s.n) = true := by rw [bne_iff_ne]; omega
        clear hxs
        go_wp2_with fail
        go_quiet (fail)
        revert nq
        intro nq1
        go_wp2_with fail
        go_quiet (fail)
        have ho2 : OwnF FSp 146 (wr.drewN (nq1 + nq)) (w.heap.size + 1) (.slice A0 o.length c0) o := ho
        go_wp2_with (at_builtin; refine app_flat (F := FSp) (v := .slice A0 o.length c0) rfl (.tmp 39) (.tmp 44) 89 rfl elem_sp x rfl ho2 rfl rfl (by have := putSt_len HO.out; rw [List.length_take] at this; first | omega | (simp; omega)) (Nat.le_trans hsw0' ((hcr.drewN (nq1 + nq))).size) ?_; intro v3 w3 o3 ch3 at3; obtain ⟨A3, c3, rfl⟩ := o3.form; simp only [List.length_append, List.length_cons, List.length_nil, Nat.zero_add] at o3; have hc3 := ((hcr.drewN (nq1 + nq))).trans (ch3.mono (T := fun b => w.heap.size + 1 ≤ b) fun b _ hb => ((ho2).at_ hb).1) fun _ _ h => h; skip)
        go_roundw
        case rel => exact ⟨k + 1, true, o ++ [x], by omega, rfl, by go_num, o3, by rw [take_succ HX.out]; exact HN.out, hc3⟩
        case measure => simp [intOf]; omega
    · obtain rfl : k = xs.length := by omega
      have hend := putSt_end HO.out
      rw [List.take_length] at hend
      have ck0 := (blk_chg k0 hcr (by omega)).cell
      have hbz : ∀ {w9 : World}, Chg (fun b => w.heap.size + 1 ≤ b) w0 w9 → Below w.heap.size w w9 := fun hc9 => hbw0.trans (hc9.below hbw0.size fun i hi h => by omega)
      rcases hend with ⟨rfl, he⟩ | ⟨rfl, he⟩
      · have HE := Lib.hid he; clear he
        go_wp2_with (at_builtin; refine app_flat (F := FSp) (v := .slice A0 o.length c0) rfl (.tmp 48) (.tmp 50) 89 rfl elem_sp s rfl ho rfl rfl (by have := putSt_len HO.out; rw [List.length_take] at this; first | omega | (simp; omega)) (Nat.le_trans hsw0' (hcr).size) ?_; intro v3 w3 o3 ch3 at3; obtain ⟨A3, c3, rfl⟩ := o3.form; simp only [List.length_append, List.length_cons, List.length_nil, Nat.zero_add] at o3; have hc3 := (hcr).trans (ch3.mono (T := fun b => w.heap.size + 1 ≤ b) fun b _ hb => ((ho).at_ hb).1) fun _ _ h => h; skip)
        go_ret
        exact ⟨_, rfl, by rw [HE.out]; exact o3.base (by omega), hbz hc3⟩
      · have HE := Lib.hid he; clear he
        go_wp2_with fail
        go_ret
        exact ⟨_, rfl, by rw [HE.out]; exact ho.base (by omega), hbz hcr⟩
end Go.Proofs.YtpdkgpbfmpekgaaGreatDoor
