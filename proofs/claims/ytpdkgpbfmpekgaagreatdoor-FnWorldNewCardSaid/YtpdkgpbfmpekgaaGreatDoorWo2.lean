


/- Worlds that begin, told apart; their draw. -/
import Derived.Test.YtpdkgpbfmpekgaaGreatDoorWo
import Derived.Test.YtpdkgpbfmpekgaaGreatDoorRd
namespace Go.Proofs.YtpdkgpbfmpekgaaGreatDoor
open Go.RowKit

theorem wks_zero {ok : Bool} {x : Me} (h : x ∈ wks ok) : x = ⟨0, 0⟩ := by
  cases ok <;> simp [wks] at h
  exact h
theorem wks_gd (ok : Bool) : ∀ x ∈ wks ok, FMe.good x := fun x hx => by
  rw [wks_zero hx]; exact ⟨by show In64 0; unfold In64; omega, by show In64 0; unfold In64; omega⟩
theorem wfs_gd (ok : Bool) : ∀ x ∈ wfs ok, FInt.good x := fun x hx => by
  cases ok <;> simp [wfs] at hx
  subst hx; show In64 0; unfold In64; omega
set_option maxRecDepth 20000 in
set_option maxHeartbeats 2000000 in
theorem ldWorld_em (key : Int) (ok : Bool) (v v' : Value) (w : World) (b0 b0' : Nat) (h : EWoC key (wks ok) (wfs ok) w b0 v) (h' : EWoC key (wks ok) (wfs ok) w b0' v') : Calls Tryz.prog 38 #[v, v'] w fun e w' => e = .returned (.bool true) ∧ Below w.heap.size w w' := by
  obtain ⟨P, Q, R, A, B, K, F, rfl, o1, o2⟩ := h
  obtain ⟨P', Q', R', A', B', K', F', rfl, o3, o4⟩ := h'
  obtain ⟨AK, cK, rfl⟩ := o1.form
  obtain ⟨AF, cF, rfl⟩ := o2.form
  obtain ⟨AK', cK', rfl⟩ := o3.form
  obtain ⟨AF', cF', rfl⟩ := o4.form
  have hkl : (wks ok).length ≤ 2 := by cases ok <;> simp [wks]
  obtain ⟨n, hn⟩ : ∃ n, n = (wks ok).length := ⟨_, rfl⟩
  obtain ⟨m, hm⟩ : ∃ m, m = (wfs ok).length := ⟨_, rfl⟩
  go_enter Tryz.func38, Tryz.ntmps38
  go_wp2_with fail
  have hbw0 : Below w.heap.size w ((w.alloc (.cells #[.int .i64 key, .slice P 0 0, .slice Q 0 0, .slice R 0 0, .slice A 0 0, .slice B 0 0, .int .i64 0, .int .i64 0, .int .i64 0, .string ⟨#[]⟩, .slice AK (wks ok).length cK, .slice AF (wfs ok).length cF] 80)).alloc (.cells #[.int .i64 key, .slice P' 0 0, .slice Q' 0 0, .slice R' 0 0, .slice A' 0 0, .slice B' 0 0, .int .i64 0, .int .i64 0, .int .i64 0, .string ⟨#[]⟩, .slice AK' (wks ok).length cK', .slice AF' (wfs ok).length cF'] 80)) := below_alloc' (below_alloc _ _) _
  have k0 : Blk ((w.alloc (.cells #[.int .i64 key, .slice P 0 0, .slice Q 0 0, .slice R 0 0, .slice A 0 0, .slice B 0 0, .int .i64 0, .int .i64 0, .int .i64 0, .string ⟨#[]⟩, .slice AK (wks ok).length cK, .slice AF (wfs ok).length cF] 80)).alloc (.cells #[.int .i64 key, .slice P' 0 0, .slice Q' 0 0, .slice R' 0 0, .slice A' 0 0, .slice B' 0 0, .int .i64 0, .int .i64 0, .int .i64 0, .string ⟨#[]⟩, .slice AK' (wks ok).length cK', .slice AF' (wfs ok).length cF'] 80)) (w.heap.size) 80 #[.int .i64 key, .slice P 0 0, .slice Q 0 0, .slice R 0 0, .slice A 0 0, .slice B 0 0, .int .i64 0, .int .i64 0, .int .i64 0, .string ⟨#[]⟩, .slice AK (wks ok).length cK, .slice AF (wfs ok).length cF] := by
    have hk := blk_alloc (Blk.new w 80 #[.int .i64 key, .slice P 0 0, .slice Q 0 0, .slice R 0 0, .slice A 0 0, .slice B 0 0, .int .i64 0, .int .i64 0, .int .i64 0, .string ⟨#[]⟩, .slice AK (wks ok).length cK, .slice AF (wfs ok).length cF]) (.cells #[.int .i64 key, .slice P' 0 0, .slice Q' 0 0, .slice R' 0 0, .slice A' 0 0, .slice B' 0 0, .int .i64 0, .int .i64 0, .int .i64 0, .string ⟨#[]⟩, .slice AK' (wks ok).length cK', .slice AF' (wfs ok).length cF'] 80)
    exact hk
  have k1 : Blk ((w.alloc (.cells #[.int .i64 key, .slice P 0 0, .slice Q 0 0, .slice R 0 0, .slice A 0 0, .slice B 0 0, .int .i64 0, .int .i64 0, .int .i64 0, .string ⟨#[]⟩, .slice AK (wks ok).length cK, .slice AF (wfs ok).length cF] 80)).alloc (.cells #[.int .i64 key, .slice P' 0 0, .slice Q' 0 0, .slice R' 0 0, .slice A' 0 0, .slice B' 0 0, .int .i64 0, .int .i64 0, .int .i64 0, .string ⟨#[]⟩, .slice AK' (wks ok).length cK', .slice AF' (wfs ok).length cF'] 80)) (w.heap.size + 1) 80 #[.int .i64 key, .slice P' 0 0, .slice Q' 0 0, .slice R' 0 0, .slice A' 0 0, .slice B' 0 0, .int .i64 0, .int .i64 0, .int .i64 0, .string ⟨#[]⟩, .slice AK' (wks ok).length cK', .slice AF' (wfs ok).length cF'] := by
    have hk := Blk.new (w.alloc (.cells #[.int .i64 key, .slice P 0 0, .slice Q 0 0, .slice R 0 0, .slice A 0 0, .slice B 0 0, .int .i64 0, .int .i64 0, .int .i64 0, .string ⟨#[]⟩, .slice AK (wks ok).length cK, .slice AF (wfs ok).length cF] 80)) 80 #[.int .i64 key, .slice P' 0 0, .slice Q' 0 0, .slice R' 0 0, .slice A' 0 0, .slice B' 0 0, .int .i64 0, .int .i64 0, .int .i64 0, .string ⟨#[]⟩, .slice AK' (wks ok).length cK', .slice AF' (wfs ok).length cF']
    simp only [World.size_alloc] at hk
    exact hk
  have hsw0 : w.heap.size + 2 ≤ ((w.alloc (.cells #[.int .i64 key, .slice P 0 0, .slice Q 0 0, .slice R 0 0, .slice A 0 0, .slice B 0 0, .int .i64 0, .int .i64 0, .int .i64 0, .string ⟨#[]⟩, .slice AK (wks ok).length cK, .slice AF (wfs ok).length cF] 80)).alloc (.cells #[.int .i64 key, .slice P' 0 0, .slice Q' 0 0, .slice R' 0 0, .slice A' 0 0, .slice B' 0 0, .int .i64 0, .int .i64 0, .int .i64 0, .string ⟨#[]⟩, .slice AK' (wks ok).length cK', .slice AF' (wfs ok).length cF'] 80)).heap.size := by simp only [World.size_alloc]; omega
  generalize ((w.alloc (.cells #[.int .i64 key, .slice P 0 0, .slice Q 0 0, .slice R 0 0, .slice A 0 0, .slice B 0 0, .int .i64 0, .int .i64 0, .int .i64 0, .string ⟨#[]⟩, .slice AK (wks ok).length cK, .slice AF (wfs ok).length cF] 80)).alloc (.cells #[.int .i64 key, .slice P' 0 0, .slice Q' 0 0, .slice R' 0 0, .slice A' 0 0, .slice B' 0 0, .int .i64 0, .int .i64 0, .int .i64 0, .string ⟨#[]⟩, .slice AK' (wks ok).length cK', .slice AF' (wfs ok).length cF'] 80)) = w0 at *
  have ck0 := k0.cell
  have fk0 := k0.frozen
  have ck1 := k1.cell
  have fk1 := k1.frozen
  refine (ldSweep_em P Q R A B P' Q' R' A' B' w0).mono ?_
  rintro e w1 ⟨rfl, b1⟩
  replace k0 := blk_keep k0 b1
  replace ck0 := k0.cell
  replace fk0 := k0.frozen
  replace k1 := blk_keep k1 b1
  replace ck1 := k1.cell
  replace fk1 := k1.frozen
  replace hbw0 := below_below hbw0 b1
  clear b1
  go_wp2_with fail
  have r2 := (o2.below hbw0).sl (wfs_gd ok) (Nat.le_refl _)
  have r4 := (o4.below hbw0).sl (wfs_gd ok) (Nat.le_refl _)
  refine (ldInts_b (wfs ok) (wfs ok) _ _ w1 _ _ _ _ r2 r4 true (by simp)).mono ?_
  rintro e w2 ⟨rfl, b2⟩
  replace k0 := blk_keep k0 b2
  replace ck0 := k0.cell
  replace fk0 := k0.frozen
  replace k1 := blk_keep k1 b2
  replace ck1 := k1.cell
  replace fk1 := k1.frozen
  replace hbw0 := below_below hbw0 b2
  clear b2 r2 r4
  have r1 := (o1.below hbw0).sl (wks_gd ok) (Nat.le_refl _)
  have r3 := (o3.below hbw0).sl (wks_gd ok) (Nat.le_refl _)
  go_wp2_with fail
  go_loopw [5] (fun b wr => ∃ k : Nat, k ≤ (wks ok).length ∧ b = .int .i64 k ∧ Below w2.heap.size w2 wr) (fun b _ => (wks ok).length - (intOf b).toNat)
  case atStart => exact ⟨0, Nat.zero_le _, rfl, Below.refl _ _⟩
  case round =>
    obtain ⟨k, hk, rfl, hbr⟩ := hrel
    replace k0 := blk_keep k0 hbr
    replace ck0 := k0.cell
    replace fk0 := k0.frozen
    replace k1 := blk_keep k1 hbr
    replace ck1 := k1.cell
    replace fk1 := k1.frozen
    by_cases hlt : k < (wks ok).length
    · obtain ⟨x, hxk⟩ := some_of_lt hlt
      have hx0 := wks_zero (List.mem_of_getElem? hxk)
      subst hx0
      obtain ⟨b1, off, es, hAe, _, hbb, _, ⟨rfl, hg1⟩, hcc⟩ := (sl_keep (RFlat.loc FMe) r1 hbr (Nat.le_refl _)).at_ hxk
      subst hAe
      have hc0 : wr.cell? ⟨b1, off + k * 2, none⟩ = some (.int .i64 0) := by simpa [FMe] using hcc 0 _ rfl
      have hc1 : wr.cell? ⟨b1, off + k * 2 + 1, none⟩ = some (.int .i64 0) := by simpa [FMe] using hcc 1 _ rfl
      clear hcc
      obtain ⟨b2, off2, es, hAe, _, hbb2, _, ⟨rfl, hg2⟩, hcc⟩ := (sl_keep (RFlat.loc FMe) r3 hbr (Nat.le_refl _)).at_ hxk
      subst hAe
      have hd0 : wr.cell? ⟨b2, off2 + k * 2, none⟩ = some (.int .i64 0) := by simpa [FMe] using hcc 0 _ rfl
      have hd1 : wr.cell? ⟨b2, off2 + k * 2 + 1, none⟩ = some (.int .i64 0) := by simpa [FMe] using hcc 1 _ rfl
      clear hcc
      go_wp2_with fail
      go_quiet (fail)
      have hb3 := below_drewN hbr nq
      go_wp2_with fail
      go_roundw
      case rel => first | exact ⟨k + 1, by omega, by go_num, hb3⟩ | ((repeat apply Exists.intro); refine ⟨?_, rfl⟩; exact ⟨k + 1, by omega, by go_num, hb3⟩)
      case measure => simp [intOf]; omega
    · obtain rfl : k = (wks ok).length := by omega
      go_wp2_with fail
      go_ret
      exact ⟨rfl, below_below hbw0 hbr⟩
theorem drawWorldNew_any (A : Option Addr) (n c : Nat) (l : List Int) (w : World) (h : RSl RByte 1 w 0 w.heap.size l [.slice A n c]) :
    Calls Tryz.prog 35 #[.slice A n c] w fun e w' => ∃ k : Int, e = .returned (.int .i64 k) ∧ (-1 ≤ k ∧ k ≤ 102) ∧ Below w.heap.size w w' := by
  go_enter Tryz.func35, Tryz.ntmps35
  go_wp2_with fail
  refine (open_any l A n c w 0 w.heap.size h (Nat.le_refl _)).mono ?_
  rintro e w1 ⟨g, rfl, hr, hg, hb1⟩
  go_wp2_with fail
  refine (pick_any _ _ _ _ _ _ 102 hr (by omega)).mono ?_
  rintro e w2 ⟨m, rfl, ⟨_, hm⟩, rd2, hc2⟩
  have := hm (by omega)
  have hb2 : Below w.heap.size w w2 := hb1.trans (hc2.below hb1.size fun i hi e => by have e' : i = g := e; omega)
  go_wp2_with fail
  go_ret
  exact ⟨m - 1, by first | rfl | (congr 1; omega), by omega, hb2⟩
end Go.Proofs.YtpdkgpbfmpekgaaGreatDoor
