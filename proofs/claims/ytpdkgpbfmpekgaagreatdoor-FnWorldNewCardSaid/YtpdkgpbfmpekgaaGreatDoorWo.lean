


/- A world that begins is right; what is in it. -/
import Derived.Test.YtpdkgpbfmpekgaaGreatDoorWnC
import Derived.Test.YtpdkgpbfmpekgaaGreatDoorLog
import Derived.Test.YtpdkgpbfmpekgaaGreatDoorGL
import Derived.Test.YtpdkgpbfmpekgaaGreatDoorLdS
import Derived.Test.YtpdkgpbfmpekgaaGreatDoorShelf
namespace Go.Proofs.YtpdkgpbfmpekgaaGreatDoor
open Go.RowKit

theorem rsl0 {α : Type} {E : Rep α} {sz : Nat} {w : World} {lo hi : Nat} (A : Option Addr) : RSl E sz w lo hi [] [.slice A 0 0] := ⟨A, 0, rfl, Nat.le_refl _, by unfold maxLen; omega, fun h => absurd h (by simp)⟩
theorem rsto0 {w : World} {lo hi : Nat} (A B C : Option Addr) : RStoL w lo hi ⟨[], [], []⟩ (.slice A 0 0) (.slice B 0 0) (.slice C 0 0) := ⟨rsl0 A, rsl0 B, rsl0 C⟩
theorem names_em (A : Option Addr) (w : World) : Calls Tryz.prog 99 #[.slice A 0 0] w fun e w' => e = .returned (.slice none 0 0) ∧ w = w' := by
  go_enter Tryz.func99, Tryz.ntmps99
  go_wp2_with fail
  go_loopw [3, 8] (fun a b wr => a = .slice none 0 0 ∧ b = .int .i64 0 ∧ w = wr) (fun _ _ _ => 0)
  case atStart => exact ⟨rfl, rfl, rfl⟩
  case round =>
    obtain ⟨rfl, rfl, rfl⟩ := hrel
    go_wp2_with fail
    go_ret
    exact ⟨rfl, rfl⟩
set_option maxRecDepth 20000 in
theorem shelfOf_em (A B C : Option Addr) (w : World) : Calls Tryz.prog 59 #[.agg #[.slice A 0 0, .slice B 0 0, .slice C 0 0]] w fun e w' => e = .returned (.agg #[.slice A 0 0, .slice B 0 0, .slice C 0 0]) ∧ Below w.heap.size w w' := by
  go_enter Tryz.func59, Tryz.ntmps59
  go_wp2_with fail
  exact bodyPost_ret (v := .agg #[.slice A 0 0, .slice B 0 0, .slice C 0 0]) (by simp [results, Tryz.results59, go_sem]) rfl ⟨rfl, by repeat (first | exact Below.refl _ _ | refine Below.setCell ?_ (by first | (simp; done) | (simp; omega)) _ | refine Below.alloc ?_ (by first | (simp; done) | (simp; omega)) _)⟩
theorem shelf_field0_em (A B C : Option Addr) (w : World) : (Instr.field 105 (.agg #[.slice A 0 0, .slice B 0 0, .slice C 0 0]) 0).run Tryz.prog w = .ok (.slice A 0 0) w := by
  simp [Instr.field, run_underlying Tryz.underlying105, asAgg, go_sem]
set_option maxRecDepth 20000 in
theorem storeMany_em (A B C : Option Addr) (w : World) : Calls Tryz.prog 40 #[.agg #[.slice A 0 0, .slice B 0 0, .slice C 0 0]] w fun e w' => e = .returned (.int .i64 0) ∧ Below w.heap.size w w' := by
  go_enter Tryz.func40, Tryz.ntmps40
  go_wp2_with fail
  have hbw0 : Below w.heap.size w (w.alloc (.cells #[.slice A 0 0, .slice B 0 0, .slice C 0 0] 27)) := below_alloc _ _
  have k0 : Blk (w.alloc (.cells #[.slice A 0 0, .slice B 0 0, .slice C 0 0] 27)) (w.heap.size) 27 #[.slice A 0 0, .slice B 0 0, .slice C 0 0] := by
    have hk := Blk.new w 27 #[.slice A 0 0, .slice B 0 0, .slice C 0 0]
    exact hk
  have hsw0 : w.heap.size + 1 ≤ (w.alloc (.cells #[.slice A 0 0, .slice B 0 0, .slice C 0 0] 27)).heap.size := by simp only [World.size_alloc]; omega
  generalize (w.alloc (.cells #[.slice A 0 0, .slice B 0 0, .slice C 0 0] 27)) = w0 at *
  have ck0 := k0.cell
  have fk0 := k0.frozen
  refine (shelfOf_em A B C w0).mono ?_
  rintro e w1 ⟨rfl, b1⟩
  replace hbw0 := below_below hbw0 b1
  have hfd := shelf_field0_em A B C w1
  go_wp2_with fail
  refine (names_em A w1).mono ?_
  rintro e w2 ⟨rfl, rfl⟩
  clear hfd
  go_wp2_with fail
  go_ret
  exact ⟨rfl, hbw0⟩
set_option maxRecDepth 20000 in
theorem packsOk_em (A B C : Option Addr) (key : Int) (w : World) : Calls Tryz.prog 61 #[.agg #[.slice A 0 0, .slice B 0 0, .slice C 0 0], .int .i64 key] w fun e w' => e = .returned (.bool true) ∧ Below w.heap.size w w' := by
  go_enter Tryz.func61, Tryz.ntmps61
  go_wp2_with fail
  have hbw0 : Below w.heap.size w (w.alloc (.cells #[.slice A 0 0, .slice B 0 0, .slice C 0 0] 105)) := below_alloc _ _
  have k0 : Blk (w.alloc (.cells #[.slice A 0 0, .slice B 0 0, .slice C 0 0] 105)) (w.heap.size) 105 #[.slice A 0 0, .slice B 0 0, .slice C 0 0] := by
    have hk := Blk.new w 105 #[.slice A 0 0, .slice B 0 0, .slice C 0 0]
    exact hk
  have hsw0 : w.heap.size + 1 ≤ (w.alloc (.cells #[.slice A 0 0, .slice B 0 0, .slice C 0 0] 105)).heap.size := by simp only [World.size_alloc]; omega
  generalize (w.alloc (.cells #[.slice A 0 0, .slice B 0 0, .slice C 0 0] 105)) = w0 at *
  have ck0 := k0.cell
  have fk0 := k0.frozen
  go_loopw [11] (fun b wr => b = .int .i64 0 ∧ w0 = wr) (fun _ _ => 0)
  case atStart => exact ⟨rfl, rfl⟩
  case round =>
    obtain ⟨rfl, rfl⟩ := hrel
    go_wp2_with fail
    refine (names_em A w0).mono ?_
    rintro e w1 ⟨rfl, rfl⟩
    go_wp2_with fail
    refine (Go.Proofs.Tryz.slices_Sort_int_none none 0 w0).mono ?_
    rintro e w1 ⟨rfl, rfl⟩
    go_wp2_with fail
    have f0 := ck0 0
    have past0 := past_cell f0
    refine region_past (by kernel_rfl) (by kernel_rfl) ?_
    repeat (go_big_quiet_step (first | (go_at_call 71; refine past_call (v := .slice none 0 0) ((Go.Proofs.Tryz.slices_Compact_int_empty none 0 _).mono ?_); (rintro e w1 ⟨rfl, rfl⟩; exact ⟨rfl, Below.refl _ _⟩)) | (go_at_call 99; refine past_call (v := .slice none 0 0) ((names_em A _).mono ?_); (rintro e w1 ⟨rfl, rfl⟩; exact ⟨rfl, Below.refl _ _⟩))))
    refine wpQuiet_nil ?_
    intro wq hw1
    have hq := past_out hw1
    clear hw1 past0
    go_wp2_with fail
    go_ret
    exact ⟨rfl, hbw0.trans (hq.mono hbw0.size)⟩
set_option maxRecDepth 20000 in
theorem snapsOk_em (A B C : Option Addr) (key : Int) (w : World) : Calls Tryz.prog 62 #[.agg #[.slice A 0 0, .slice B 0 0, .slice C 0 0], .int .i64 key] w fun e w' => e = .returned (.bool true) ∧ Below w.heap.size w w' := by
  go_enter Tryz.func62, Tryz.ntmps62
  go_wp2_with fail
  have hbw0 : Below w.heap.size w (w.alloc (.cells #[.slice A 0 0, .slice B 0 0, .slice C 0 0] 105)) := below_alloc _ _
  have k0 : Blk (w.alloc (.cells #[.slice A 0 0, .slice B 0 0, .slice C 0 0] 105)) (w.heap.size) 105 #[.slice A 0 0, .slice B 0 0, .slice C 0 0] := by
    have hk := Blk.new w 105 #[.slice A 0 0, .slice B 0 0, .slice C 0 0]
    exact hk
  have hsw0 : w.heap.size + 1 ≤ (w.alloc (.cells #[.slice A 0 0, .slice B 0 0, .slice C 0 0] 105)).heap.size := by simp only [World.size_alloc]; omega
  generalize (w.alloc (.cells #[.slice A 0 0, .slice B 0 0, .slice C 0 0] 105)) = w0 at *
  have ck0 := k0.cell
  have fk0 := k0.frozen
  go_loopw [12] (fun b wr => b = .int .i64 0 ∧ w0 = wr) (fun _ _ => 0)
  case atStart => exact ⟨rfl, rfl⟩
  case round =>
    obtain ⟨rfl, rfl⟩ := hrel
    go_wp2_with fail
    go_ret
    exact ⟨rfl, hbw0⟩
set_option maxRecDepth 20000 in
theorem storeOk_em (A B C : Option Addr) (key : Int) (hk : 1 ≤ key ∧ key ≤ 99) (w : World) : Calls Tryz.prog 16 #[.int .i64 key, .agg #[.slice A 0 0, .slice B 0 0, .slice C 0 0]] w fun e w' => e = .returned (.bool true) ∧ Below w.heap.size w w' := by
  have HK := Lib.hid hk; clear hk
  go_enter Tryz.func16, Tryz.ntmps16
  go_wp2_with fail
  have hbw0 : Below w.heap.size w (w.alloc (.cells #[.slice A 0 0, .slice B 0 0, .slice C 0 0] 27)) := below_alloc _ _
  have k0 : Blk (w.alloc (.cells #[.slice A 0 0, .slice B 0 0, .slice C 0 0] 27)) (w.heap.size) 27 #[.slice A 0 0, .slice B 0 0, .slice C 0 0] := by
    have hk := Blk.new w 27 #[.slice A 0 0, .slice B 0 0, .slice C 0 0]
    exact hk
  have hsw0 : w.heap.size + 1 ≤ (w.alloc (.cells #[.slice A 0 0, .slice B 0 0, .slice C 0 0] 27)).heap.size := by simp only [World.size_alloc]; omega
  generalize (w.alloc (.cells #[.slice A 0 0, .slice B 0 0, .slice C 0 0] 27)) = w0 at *
  have ck0 := k0.cell
  have fk0 := k0.frozen
  refine (shelfOf_em A B C w0).mono ?_
  rintro e w1 ⟨rfl, b1⟩
  replace k0 := blk_keep k0 b1
  replace ck0 := k0.cell
  replace fk0 := k0.frozen
  replace hbw0 := below_below hbw0 b1
  clear b1
  have ax := below_alloc w1 (.cells #[.slice A 0 0, .slice B 0 0, .slice C 0 0] 105)
  have ka := (blk_keep k0 ax).cell
  go_wp2_with fail
  clear ax ka
  have hbw2 : Below w1.heap.size w1 (w1.alloc (.cells #[.slice A 0 0, .slice B 0 0, .slice C 0 0] 105)) := below_alloc _ _
  have m0 : Blk (w1.alloc (.cells #[.slice A 0 0, .slice B 0 0, .slice C 0 0] 105)) (w1.heap.size) 105 #[.slice A 0 0, .slice B 0 0, .slice C 0 0] := by
    have hk := Blk.new w1 105 #[.slice A 0 0, .slice B 0 0, .slice C 0 0]
    exact hk
  have hsw2 : w1.heap.size + 1 ≤ (w1.alloc (.cells #[.slice A 0 0, .slice B 0 0, .slice C 0 0] 105)).heap.size := by simp only [World.size_alloc]; omega
  generalize (w1.alloc (.cells #[.slice A 0 0, .slice B 0 0, .slice C 0 0] 105)) = w2 at *
  have cm0 := m0.cell
  have fm0 := m0.frozen
  replace k0 := blk_keep k0 hbw2
  replace ck0 := k0.cell
  replace fk0 := k0.frozen
  replace hbw0 := below_below hbw0 hbw2
  refine (keyOk_any key w2 true (by simp only [true_iff]; exact HK.out)).mono ?_
  rintro e w3 ⟨rfl, rfl⟩
  go_wp2_with fail
  refine (packsOk_em A B C key w2).mono ?_
  rintro e w3 ⟨rfl, b3⟩
  replace k0 := blk_keep k0 b3
  replace ck0 := k0.cell
  replace fk0 := k0.frozen
  replace m0 := blk_keep m0 b3
  replace cm0 := m0.cell
  replace fm0 := m0.frozen
  replace hbw0 := below_below hbw0 b3
  clear b3
  go_wp2_with fail
  refine (snapsOk_em A B C key w3).mono ?_
  rintro e w4 ⟨rfl, b4⟩
  replace k0 := blk_keep k0 b4
  replace ck0 := k0.cell
  replace fk0 := k0.frozen
  replace m0 := blk_keep m0 b4
  replace cm0 := m0.cell
  replace fm0 := m0.frozen
  replace hbw0 := below_below hbw0 b4
  clear b4
  go_wp2_with fail
  refine (implLogOk_any [] ⟨by simp, fun x hx => (by cases hx)⟩ _ w4 0 0 (rsl0 C) (Nat.zero_le _)).mono ?_
  rintro e w5 ⟨rfl, b5⟩
  go_wp2_with fail
  go_ret
  exact ⟨rfl, below_below hbw0 b5⟩
theorem setAdd_em (m : Nat) (A : Option Addr) (w : World) : Calls Tryz.prog 75 #[.map (some m), .slice A 0 0] w fun e w' => e = .returned (.tuple #[]) ∧ w = w' := by
  go_enter Tryz.func75, Tryz.ntmps75
  go_wp2_with fail
  go_loopw [8] (fun b wr => b = .int .i64 0 ∧ w = wr) (fun _ _ => 0)
  case atStart => exact ⟨rfl, rfl⟩
  case round =>
    obtain ⟨rfl, rfl⟩ := hrel
    go_wp2_with fail
    go_end0
    exact ⟨rfl, rfl⟩
set_option maxRecDepth 20000 in
theorem sweepOk_em (P Q R A B : Option Addr) (key : Int) (hk : 1 ≤ key ∧ key ≤ 99) (w : World) : Calls Tryz.prog 24 #[.int .i64 key, .agg #[.slice P 0 0, .slice Q 0 0, .slice R 0 0, .slice A 0 0, .slice B 0 0]] w fun e w' => e = .returned (.bool true) ∧ Below w.heap.size w w' := by
  have hmm := @run_makeMap Tryz.prog
  have HK := Lib.hid hk; clear hk
  go_enter Tryz.func24, Tryz.ntmps24
  go_wp2_with fail
  have hbw0 : Below w.heap.size w (w.alloc (.cells #[.slice P 0 0, .slice Q 0 0, .slice R 0 0, .slice A 0 0, .slice B 0 0] 52)) := below_alloc _ _
  have k0 : Blk (w.alloc (.cells #[.slice P 0 0, .slice Q 0 0, .slice R 0 0, .slice A 0 0, .slice B 0 0] 52)) (w.heap.size) 52 #[.slice P 0 0, .slice Q 0 0, .slice R 0 0, .slice A 0 0, .slice B 0 0] := by
    have hk := Blk.new w 52 #[.slice P 0 0, .slice Q 0 0, .slice R 0 0, .slice A 0 0, .slice B 0 0]
    exact hk
  have hsw0 : w.heap.size + 1 ≤ (w.alloc (.cells #[.slice P 0 0, .slice Q 0 0, .slice R 0 0, .slice A 0 0, .slice B 0 0] 52)).heap.size := by simp only [World.size_alloc]; omega
  generalize (w.alloc (.cells #[.slice P 0 0, .slice Q 0 0, .slice R 0 0, .slice A 0 0, .slice B 0 0] 52)) = w0 at *
  have ck0 := k0.cell
  have fk0 := k0.frozen
  refine (storeOk_em P Q R key HK.out w0).mono ?_
  rintro e w1 ⟨rfl, b1⟩
  replace k0 := blk_keep k0 b1
  replace ck0 := k0.cell
  replace fk0 := k0.frozen
  replace hbw0 := below_below hbw0 b1
  clear b1
  have ax := below_alloc' (below_alloc w1 (.map #[] 0)) (.cells #[.map (some w1.heap.size)] 120)
  have ka := blk_keep k0 ax
  have cka := ka.cell
  have hbx := below_below hbw0 ax
  have H := Lib.hid (And.intro ka hbx)
  go_wp2_with fail
  obtain ⟨k2, hb2⟩ := H.out
  clear H cka ka hbx ax hmm
  generalize (w1.alloc (.map #[] 0)).alloc (.cells #[.map (some w1.heap.size)] 120) = w2 at *
  have ck2 := k2.cell
  refine (setAdd_em w1.heap.size A w2).mono ?_
  rintro e w3 ⟨rfl, rfl⟩
  go_wp2_with fail
  go_loopw [24] (fun b wr => b = .int .i64 0 ∧ w2 = wr) (fun _ _ => 0)
  case atStart => exact ⟨rfl, rfl⟩
  case round =>
    obtain ⟨rfl, rfl⟩ := hrel
    go_wp2_with fail
    go_loopw [36] (fun b wr => b = .int .i64 0 ∧ w2 = wr) (fun _ _ => 0)
    case atStart => exact ⟨rfl, rfl⟩
    case round =>
      obtain ⟨rfl, rfl⟩ := hrel
      go_wp2_with fail
      go_ret
      exact ⟨rfl, hb2⟩
theorem wks_g : ∀ x ∈ wks true, FMe.good x := fun x hx => by
  simp [wks] at hx; subst hx; exact ⟨by show In64 0; unfold In64; omega, by show In64 0; unfold In64; omega⟩
theorem wfs_g : ∀ x ∈ wfs true, FInt.good x := fun x hx => by
  simp [wfs] at hx; subst hx; show In64 0; unfold In64; omega
theorem wks_at {k : Nat} (h : k < 2) : (wks true)[k]? = some ⟨0, 0⟩ := by
  match k, h with
  | 0, _ => rfl
  | 1, _ => rfl
theorem wfs_at {k : Nat} (h : k < 2) : (wfs true)[k]? = some 0 := by
  match k, h with
  | 0, _ => rfl
  | 1, _ => rfl
set_option maxRecDepth 20000 in
set_option maxHeartbeats 2000000 in
theorem worldOk_em (key : Int) (hk : 1 ≤ key ∧ key ≤ 99) (v : Value) (w : World) (b0 : Nat) (h : EWoC key (wks true) (wfs true) w b0 v) : Calls Tryz.prog 39 #[v] w fun e w' => e = .returned (.bool true) ∧ Below w.heap.size w w' := by
  have HK := Lib.hid hk; clear hk
  obtain ⟨P, Q, R, A, B, K, F, rfl, o1, o2⟩ := h
  obtain ⟨AK, cK, rfl⟩ := o1.form
  obtain ⟨AF, cF, rfl⟩ := o2.form
  go_enter Tryz.func39, Tryz.ntmps39
  go_wp2_with fail
  have hbw0 : Below w.heap.size w (w.alloc (.cells #[.int .i64 key, .slice P 0 0, .slice Q 0 0, .slice R 0 0, .slice A 0 0, .slice B 0 0, .int .i64 0, .int .i64 0, .int .i64 0, .string ⟨#[]⟩, .slice AK (wks true).length cK, .slice AF (wfs true).length cF] 80)) := below_alloc _ _
  have k0 : Blk (w.alloc (.cells #[.int .i64 key, .slice P 0 0, .slice Q 0 0, .slice R 0 0, .slice A 0 0, .slice B 0 0, .int .i64 0, .int .i64 0, .int .i64 0, .string ⟨#[]⟩, .slice AK (wks true).length cK, .slice AF (wfs true).length cF] 80)) (w.heap.size) 80 #[.int .i64 key, .slice P 0 0, .slice Q 0 0, .slice R 0 0, .slice A 0 0, .slice B 0 0, .int .i64 0, .int .i64 0, .int .i64 0, .string ⟨#[]⟩, .slice AK (wks true).length cK, .slice AF (wfs true).length cF] := by
    have hk := Blk.new w 80 #[.int .i64 key, .slice P 0 0, .slice Q 0 0, .slice R 0 0, .slice A 0 0, .slice B 0 0, .int .i64 0, .int .i64 0, .int .i64 0, .string ⟨#[]⟩, .slice AK (wks true).length cK, .slice AF (wfs true).length cF]
    exact hk
  have hsw0 : w.heap.size + 1 ≤ (w.alloc (.cells #[.int .i64 key, .slice P 0 0, .slice Q 0 0, .slice R 0 0, .slice A 0 0, .slice B 0 0, .int .i64 0, .int .i64 0, .int .i64 0, .string ⟨#[]⟩, .slice AK (wks true).length cK, .slice AF (wfs true).length cF] 80)).heap.size := by simp only [World.size_alloc]; omega
  generalize (w.alloc (.cells #[.int .i64 key, .slice P 0 0, .slice Q 0 0, .slice R 0 0, .slice A 0 0, .slice B 0 0, .int .i64 0, .int .i64 0, .int .i64 0, .string ⟨#[]⟩, .slice AK (wks true).length cK, .slice AF (wfs true).length cF] 80)) = w0 at *
  have ck0 := k0.cell
  have fk0 := k0.frozen
  refine (sweepOk_em P Q R A B key HK.out w0).mono ?_
  rintro e w1 ⟨rfl, b1⟩
  replace k0 := blk_keep k0 b1
  replace ck0 := k0.cell
  replace fk0 := k0.frozen
  replace hbw0 := below_below hbw0 b1
  clear b1
  have l1 : (wks true).length = 2 := rfl
  have l2 : (wfs true).length = 2 := rfl
  rw [l1, l2] at *
  clear l1 l2
  go_wp2_with fail
  have r1 := (o1.below hbw0).sl wks_g (Nat.le_refl _)
  have r2 := (o2.below hbw0).sl wfs_g (Nat.le_refl _)
  go_loopw [26] (fun b wr => ∃ k : Nat, k ≤ 2 ∧ b = .int .i64 k ∧ Below w1.heap.size w1 wr) (fun b _ => 2 - (intOf b).toNat)
  case atStart => exact ⟨0, by omega, rfl, Below.refl _ _⟩
  case round =>
    obtain ⟨k, hk, rfl, hbr⟩ := hrel
    by_cases hlt : k < 2
    · have hxk := wks_at hlt
      have hfk := wfs_at hlt
      obtain ⟨b1, off, es, hAe, _, hbb, _, ⟨rfl, hg1⟩, hcc⟩ := (sl_keep (RFlat.loc FMe) r1 hbr (Nat.le_refl _)).at_ hxk
      subst hAe
      have hc0 : wr.cell? ⟨b1, off + k * 2, none⟩ = some (.int .i64 0) := by simpa [FMe] using hcc 0 _ rfl
      have hc1 : wr.cell? ⟨b1, off + k * 2 + 1, none⟩ = some (.int .i64 0) := by simpa [FMe] using hcc 1 _ rfl
      clear hcc
      obtain ⟨b2, off2, es, hAe, _, hbb2, _, ⟨rfl, hg2⟩, hcc⟩ := (sl_keep (RFlat.loc FInt) r2 hbr (Nat.le_refl _)).at_ hfk
      subst hAe
      have hd0 : wr.cell? ⟨b2, off2 + k, none⟩ = some (.int .i64 0) := by simpa [FInt] using hcc 0 _ rfl
      clear hcc
      replace k0 := blk_keep k0 hbr
      replace ck0 := k0.cell
      replace fk0 := k0.frozen
      have ax := below_alloc wr (.cells #[.int .i64 0, .int .i64 0] 70)
      have ka := (blk_keep k0 ax).cell
      have hd0' := cell_keep ax hd0
      have hb' := below_below hbr ax
      have H := Lib.hid hb'
      clear hb' ax
      go_wp2_with fail
      go_roundw
      case rel => first | exact ⟨k + 1, by omega, by go_num, H.out⟩ | ((repeat apply Exists.intro); refine ⟨?_, rfl⟩; exact ⟨k + 1, by omega, by go_num, H.out⟩)
      case measure => simp [intOf]; omega
    · obtain rfl : k = 2 := by omega
      go_wp2_with fail
      go_ret
      exact ⟨rfl, below_below hbw0 hbr⟩
theorem rsl_em {α : Type} {E : Rep α} {sz : Nat} {w w' : World} {lo hi lo' hi' : Nat} {v : Value} (h : RSl E sz w lo hi [] [v]) : RSl E sz w' lo' hi' [] [v] := by
  obtain ⟨A, c, e, h1, h2, -⟩ := h
  exact ⟨A, c, e, h1, h2, fun h => absurd h (by simp)⟩
theorem rsto_em {w w' : World} {lo hi lo' hi' : Nat} {va vb vc : Value} (h : RStoL w lo hi ⟨[], [], []⟩ va vb vc) : RStoL w' lo' hi' ⟨[], [], []⟩ va vb vc := ⟨rsl_em h.pk, rsl_em h.sn, rsl_em h.lg⟩
def SEm (w : World) (va vb vc : Value) : Prop := RStoL w 0 0 ⟨[], [], []⟩ va vb vc
set_option maxRecDepth 20000 in
theorem worldShown_em (key : Int) (hk : 1 ≤ key ∧ key ≤ 99) (v : Value) (w : World) (b0 : Nat) (h : EWoC key (wks true) (wfs true) w b0 v) : Calls Tryz.prog 42 #[v] w fun e w' => ∃ va vb vc, e = .returned (.agg #[va, vb, vc]) ∧ SEm w' va vb vc ∧ Below w.heap.size w w' := by
  have HK := Lib.hid hk; clear hk
  have HW := Lib.hid h
  obtain ⟨P, Q, R, A, B, K, F, rfl, o1, o2⟩ := h
  obtain ⟨AK, cK, rfl⟩ := o1.form
  obtain ⟨AF, cF, rfl⟩ := o2.form
  go_enter Tryz.func42, Tryz.ntmps42
  go_wp2_with fail
  have hbw0 : Below w.heap.size w ((w.alloc (.cells #[.int .i64 key, .slice P 0 0, .slice Q 0 0, .slice R 0 0, .slice A 0 0, .slice B 0 0, .int .i64 0, .int .i64 0, .int .i64 0, .string ⟨#[]⟩, .slice AK (wks true).length cK, .slice AF (wfs true).length cF] 80)).alloc (.cells #[.slice none 0 0, .slice none 0 0, .slice none 0 0] 27)) := below_alloc' (below_alloc _ _) _
  have k0 : Blk ((w.alloc (.cells #[.int .i64 key, .slice P 0 0, .slice Q 0 0, .slice R 0 0, .slice A 0 0, .slice B 0 0, .int .i64 0, .int .i64 0, .int .i64 0, .string ⟨#[]⟩, .slice AK (wks true).length cK, .slice AF (wfs true).length cF] 80)).alloc (.cells #[.slice none 0 0, .slice none 0 0, .slice none 0 0] 27)) (w.heap.size) 80 #[.int .i64 key, .slice P 0 0, .slice Q 0 0, .slice R 0 0, .slice A 0 0, .slice B 0 0, .int .i64 0, .int .i64 0, .int .i64 0, .string ⟨#[]⟩, .slice AK (wks true).length cK, .slice AF (wfs true).length cF] := by
    have hk := blk_alloc (Blk.new w 80 #[.int .i64 key, .slice P 0 0, .slice Q 0 0, .slice R 0 0, .slice A 0 0, .slice B 0 0, .int .i64 0, .int .i64 0, .int .i64 0, .string ⟨#[]⟩, .slice AK (wks true).length cK, .slice AF (wfs true).length cF]) (.cells #[.slice none 0 0, .slice none 0 0, .slice none 0 0] 27)
    exact hk
  have k1 : Blk ((w.alloc (.cells #[.int .i64 key, .slice P 0 0, .slice Q 0 0, .slice R 0 0, .slice A 0 0, .slice B 0 0, .int .i64 0, .int .i64 0, .int .i64 0, .string ⟨#[]⟩, .slice AK (wks true).length cK, .slice AF (wfs true).length cF] 80)).alloc (.cells #[.slice none 0 0, .slice none 0 0, .slice none 0 0] 27)) (w.heap.size + 1) 27 #[.slice none 0 0, .slice none 0 0, .slice none 0 0] := by
    have hk := Blk.new (w.alloc (.cells #[.int .i64 key, .slice P 0 0, .slice Q 0 0, .slice R 0 0, .slice A 0 0, .slice B 0 0, .int .i64 0, .int .i64 0, .int .i64 0, .string ⟨#[]⟩, .slice AK (wks true).length cK, .slice AF (wfs true).length cF] 80)) 27 #[.slice none 0 0, .slice none 0 0, .slice none 0 0]
    simp only [World.size_alloc] at hk
    exact hk
  have hsw0 : w.heap.size + 2 ≤ ((w.alloc (.cells #[.int .i64 key, .slice P 0 0, .slice Q 0 0, .slice R 0 0, .slice A 0 0, .slice B 0 0, .int .i64 0, .int .i64 0, .int .i64 0, .string ⟨#[]⟩, .slice AK (wks true).length cK, .slice AF (wfs true).length cF] 80)).alloc (.cells #[.slice none 0 0, .slice none 0 0, .slice none 0 0] 27)).heap.size := by simp only [World.size_alloc]; omega
  generalize ((w.alloc (.cells #[.int .i64 key, .slice P 0 0, .slice Q 0 0, .slice R 0 0, .slice A 0 0, .slice B 0 0, .int .i64 0, .int .i64 0, .int .i64 0, .string ⟨#[]⟩, .slice AK (wks true).length cK, .slice AF (wfs true).length cF] 80)).alloc (.cells #[.slice none 0 0, .slice none 0 0, .slice none 0 0] 27)) = w0 at *
  have ck0 := k0.cell
  have fk0 := k0.frozen
  have ck1 := k1.cell
  have fk1 := k1.frozen
  refine (worldOk_em key HK.out _ w0 b0 (HW.out.below hbw0)).mono ?_
  rintro e w1 ⟨rfl, b1⟩
  replace k0 := blk_keep k0 b1
  replace ck0 := k0.cell
  replace fk0 := k0.frozen
  replace k1 := blk_keep k1 b1
  replace ck1 := k1.cell
  replace fk1 := k1.frozen
  replace hbw0 := below_below hbw0 b1
  clear b1
  go_wp2_with fail
  refine (implLieShow_any ⟨[], [], []⟩ ⟨0, 0, 0, ⟨#[]⟩⟩ _ _ _ w1 0 0 (rsto0 P Q R) (Nat.zero_le _) (by decide) (by decide)).mono ?_
  rintro e w2 ⟨u1, u2, u3, rfl, o3, b3⟩
  replace k0 := blk_keep k0 b3
  replace ck0 := k0.cell
  replace fk0 := k0.frozen
  replace k1 := blk_keep k1 b3
  replace ck1 := k1.cell
  replace fk1 := k1.frozen
  replace hbw0 := below_below hbw0 b3
  have hl : lieS ⟨[], [], []⟩ ⟨0, 0, 0, ⟨#[]⟩⟩ = ⟨[], [], []⟩ := lieS_5 (by decide) (by decide) (by decide) (by decide)
  have hs := o3.l
  rw [hl] at hs
  clear o3 hl b3
  obtain ⟨A5, a5, rfl⟩ := RSl.form hs.pk
  obtain ⟨B5, b5, rfl⟩ := RSl.form hs.sn
  obtain ⟨C5, c5, rfl⟩ := RSl.form hs.lg
  simp only [List.length_nil] at hs ⊢
  have HS := Lib.hid hs; clear hs
  go_wp2_with fail
  have k4 := ((k1.set_ 0 (.slice A5 0 a5)).set_ 1 (.slice B5 0 b5)).set_ 2 (.slice C5 0 c5)
  simp only [List.setIfInBounds_toArray, List.set_cons_zero, List.set_cons_succ] at k4
  have c4 := k4.cell
  exact bodyPost_ret (v := .agg #[.slice A5 0 a5, .slice B5 0 b5, .slice C5 0 c5]) (by simp [results, Tryz.results42, go_sem, c4]) rfl ⟨_, _, _, rfl, rsto_em HS.out, ((hbw0.setCell (by dsimp only; omega) _).setCell (by dsimp only; omega) _).setCell (by dsimp only; omega) _⟩
theorem ldSweep_em (P Q R A B P' Q' R' A' B' : Option Addr) (w : World) : Calls Tryz.prog 98 #[.agg #[.slice P 0 0, .slice Q 0 0, .slice R 0 0, .slice A 0 0, .slice B 0 0], .agg #[.slice P' 0 0, .slice Q' 0 0, .slice R' 0 0, .slice A' 0 0, .slice B' 0 0]] w fun e w' => e = .returned (.bool true) ∧ Below w.heap.size w w' := by
  go_enter Tryz.func98, Tryz.ntmps98
  go_wp2_with fail
  have hbw0 : Below w.heap.size w ((w.alloc (.cells #[.slice P 0 0, .slice Q 0 0, .slice R 0 0, .slice A 0 0, .slice B 0 0] 52)).alloc (.cells #[.slice P' 0 0, .slice Q' 0 0, .slice R' 0 0, .slice A' 0 0, .slice B' 0 0] 52)) := below_alloc' (below_alloc _ _) _
  have k0 : Blk ((w.alloc (.cells #[.slice P 0 0, .slice Q 0 0, .slice R 0 0, .slice A 0 0, .slice B 0 0] 52)).alloc (.cells #[.slice P' 0 0, .slice Q' 0 0, .slice R' 0 0, .slice A' 0 0, .slice B' 0 0] 52)) (w.heap.size) 52 #[.slice P 0 0, .slice Q 0 0, .slice R 0 0, .slice A 0 0, .slice B 0 0] := by
    have hk := blk_alloc (Blk.new w 52 #[.slice P 0 0, .slice Q 0 0, .slice R 0 0, .slice A 0 0, .slice B 0 0]) (.cells #[.slice P' 0 0, .slice Q' 0 0, .slice R' 0 0, .slice A' 0 0, .slice B' 0 0] 52)
    exact hk
  have k1 : Blk ((w.alloc (.cells #[.slice P 0 0, .slice Q 0 0, .slice R 0 0, .slice A 0 0, .slice B 0 0] 52)).alloc (.cells #[.slice P' 0 0, .slice Q' 0 0, .slice R' 0 0, .slice A' 0 0, .slice B' 0 0] 52)) (w.heap.size + 1) 52 #[.slice P' 0 0, .slice Q' 0 0, .slice R' 0 0, .slice A' 0 0, .slice B' 0 0] := by
    have hk := Blk.new (w.alloc (.cells #[.slice P 0 0, .slice Q 0 0, .slice R 0 0, .slice A 0 0, .slice B 0 0] 52)) 52 #[.slice P' 0 0, .slice Q' 0 0, .slice R' 0 0, .slice A' 0 0, .slice B' 0 0]
    simp only [World.size_alloc] at hk
    exact hk
  have hsw0 : w.heap.size + 2 ≤ ((w.alloc (.cells #[.slice P 0 0, .slice Q 0 0, .slice R 0 0, .slice A 0 0, .slice B 0 0] 52)).alloc (.cells #[.slice P' 0 0, .slice Q' 0 0, .slice R' 0 0, .slice A' 0 0, .slice B' 0 0] 52)).heap.size := by simp only [World.size_alloc]; omega
  generalize ((w.alloc (.cells #[.slice P 0 0, .slice Q 0 0, .slice R 0 0, .slice A 0 0, .slice B 0 0] 52)).alloc (.cells #[.slice P' 0 0, .slice Q' 0 0, .slice R' 0 0, .slice A' 0 0, .slice B' 0 0] 52)) = w0 at *
  have ck0 := k0.cell
  have fk0 := k0.frozen
  have ck1 := k1.cell
  have fk1 := k1.frozen
  refine (ldStore_any ⟨[], [], []⟩ ⟨[], [], []⟩ _ _ _ _ _ _ w0 0 0 0 0 (rsto0 P Q R) (rsto0 P' Q' R') (Nat.zero_le _) (Nat.zero_le _) true (by simp)).mono ?_
  rintro e w1 ⟨rfl, b1⟩
  replace k0 := blk_keep k0 b1
  replace ck0 := k0.cell
  replace fk0 := k0.frozen
  replace k1 := blk_keep k1 b1
  replace ck1 := k1.cell
  replace fk1 := k1.frozen
  replace hbw0 := below_below hbw0 b1
  clear b1
  go_wp2_with fail
  refine (ldInts_b [] [] _ _ w1 0 0 0 0 (rsl0 A) (rsl0 A') true (by simp)).mono ?_
  rintro e w2 ⟨rfl, b2⟩
  replace k0 := blk_keep k0 b2
  replace ck0 := k0.cell
  replace fk0 := k0.frozen
  replace k1 := blk_keep k1 b2
  replace ck1 := k1.cell
  replace fk1 := k1.frozen
  replace hbw0 := below_below hbw0 b2
  clear b2
  go_wp2_with fail
  refine (ldInts_b [] [] _ _ w2 0 0 0 0 (rsl0 B) (rsl0 B') true (by simp)).mono ?_
  rintro e w3 ⟨rfl, b3⟩
  go_wp2_with fail
  go_ret
  exact ⟨rfl, below_below hbw0 b3⟩
end Go.Proofs.YtpdkgpbfmpekgaaGreatDoor
