


/- Logs as linked lists: slices.Backward, impl.linked. -/
import Derived.Test.YtpdkgpbfmpekgaaGreatDoorSt
import Derived.Test.YtpdkgpbfmpekgaaGreatDoorPast
import Derived.RangeFuncNested
import Derived.RangeFuncBound
import Derived.RangeFuncCalls
import Derived.RangeFuncLeaves
import Derived.Shelf.Abstract
import Derived.Shelf.RegionOpen
import Derived.OwnWalkIn
import Derived.TacticsInMore
import Derived.LoopNIn
import Derived.LoopIn
namespace Go.Proofs.YtpdkgpbfmpekgaaGreatDoor
open Go.RowKit Go.Shelf
attribute [local go_sem] Oper.semAt_some

/-- What has come of a row from its back in k rounds. -/
def comeB (xs : List Hd) (k : Nat) : List (Int × Hd) := (List.range k).map fun j => (((xs.length - 1 - j : Nat) : Int), xs[xs.length - 1 - j]?.getD ⟨0, 0⟩)
theorem comeB_succ (xs : List Hd) (k : Nat) : comeB xs (k + 1) = comeB xs k ++ [(((xs.length - 1 - k : Nat) : Int), xs[xs.length - 1 - k]?.getD ⟨0, 0⟩)] := by simp [comeB, List.range_succ]
theorem comeB_length (xs : List Hd) (k : Nat) : (comeB xs k).length = k := by simp [comeB]
theorem comeB_all (xs : List Hd) : ((comeB xs xs.length).map (·.2)).reverse = xs := by
  apply List.ext_getElem
  · simp [comeB]
  · intro i h1 h2
    simp only [comeB, List.map_map, List.getElem_reverse, List.getElem_map, List.length_map, List.length_range, List.getElem_range, Function.comp_apply]
    have e : xs.length - 1 - (xs.length - 1 - i) = i := by omega
    rw [e, List.getElem?_eq_getElem h2, Option.getD_some]
abbrev encHd (x : Int × Hd) : Array Value := #[.int .i64 x.1, .agg #[.int .i64 x.2.b, .int .i64 x.2.s]]
def KpB (n₀ Bs : Nat) (A B : World) : Prop := Below n₀ A B ∧ B.heap[Bs]? = A.heap[Bs]?
theorem KpB.refl {n₀ Bs : Nat} {A : World} : KpB n₀ Bs A A := ⟨Below.refl _ _, rfl⟩
theorem KpB.t {n₀ Bs : Nat} {A B C : World} (h : KpB n₀ Bs A B) (k : KpB n₀ Bs B C) : KpB n₀ Bs A C := ⟨h.1.trans k.1, k.2.trans h.2⟩
set_option maxRecDepth 100000 in
set_option maxHeartbeats 1000000 in
theorem backward_in (F : Fence) (n : Nat) (h5 : F.fn 153) (hro : F.round = none) (a : Option Addr) (len cap : Nat) (w : World) :
    CallsIn F n Tryz.prog 153 #[.slice a len cap] w fun e w' => e = .returned (.func (.func 210) #[] #[.pointer (some ⟨w.heap.size, 0, none⟩)]) ∧ w' = w.alloc (.cells #[.slice a len cap] 25) := by
  refine callsIn_of_wp Tryz.func153 rfl h5 ?_ hro
  simp only [Tryz.ntmps153, List.size_toArray, List.length_cons, List.length_nil, Nat.reduceAdd, Nat.reduceSub, Array.replicate_succ, Array.replicate_zero, List.push_toArray, List.append_toArray, List.nil_append, List.cons_append]
  gi_wp2
  go_ret
  exact ⟨rfl, rfl⟩
set_option maxRecDepth 100000 in
set_option maxHeartbeats 2000000 in
theorem backward1_in (F : Fence) (n : Nat) (h7 : F.fn 210) (hro : F.round = none) (hn : 1 ≤ n) (l Bs n₀ : Nat) (A : Option Addr) (c lo hi : Nat) (xs : List Hd) (hhi : hi ≤ n₀) (J Jx : List (Int × Hd) → World → Prop)
    (hY : ∀ pre x W, J pre W → pre.length < xs.length → YieldAt F (n - 1) Tryz.prog l (encHd x) W fun e W' =>
      (e = .returned (.bool true) ∧ J (pre ++ [x]) W' ∧ KpB n₀ Bs W W') ∨ (e = .returned (.bool false) ∧ Jx (pre ++ [x]) W'))
    (W : World) (hBs : Boxed W Bs 25 (.slice A xs.length c)) (hc : RHdsL W lo hi xs [.slice A xs.length c]) (h0 : J [] W) :
    CallsIn F n Tryz.prog 210 #[.func (.yield l) #[] #[], .pointer (some ⟨Bs, 0, none⟩)] W fun e W' => (∃ v, e = .returned v) ∧
      ((∃ ys, ys = comeB xs xs.length ∧ J ys W') ∨ (∃ pre, (∃ k, pre = comeB xs k) ∧ Jx pre W')) := by
  obtain ⟨_, hcl, hx⟩ := RSl.len_ hc
  unfold maxLen at hx
  refine callsIn_of_wp Tryz.func210 rfl h7 ?_ hro
  simp only [Tryz.ntmps210, List.size_toArray, List.length_cons, List.length_nil, Nat.reduceAdd, Nat.reduceSub, Array.replicate_succ, Array.replicate_zero, List.push_toArray, List.append_toArray, List.nil_append, List.cons_append]
  have cB := hBs.cell
  gi_wp2
  gi_loopw [3] (fun i wr => ∃ k : Nat, k ≤ xs.length ∧ i = .int .i64 ((xs.length : Int) - 1 - k) ∧ J (comeB xs k) wr ∧ KpB n₀ Bs W wr)
    (fun i _ => (intOf i + 1).toNat)
  case atStart => exact ⟨0, Nat.zero_le _, by simp, h0, KpB.refl⟩
  case round =>
    obtain ⟨k, hk, rfl, hJs, hnx⟩ := hrel
    have hB' : Boxed wr Bs 25 (.slice A xs.length c) := hnx.2.trans hBs
    have cB' := hB'.cell
    clear cB
    by_cases hlt : k < xs.length
    · obtain ⟨x, hxk⟩ := some_of_lt (l := xs) (k := xs.length - 1 - k) (by omega)
      obtain ⟨b1, off, es, hAe, _, hbb, _, ⟨rfl, hg1⟩, hcc⟩ := (RHdsL.loc.below hc hnx.1 hhi).at_ hxk
      subst hAe
      have hc0 : wr.cell? ⟨b1, off + (xs.length - 1 - k) * 2, none⟩ = some (.int .i64 x.b) := by simpa using hcc 0 _ rfl
      have hc1 : wr.cell? ⟨b1, off + (xs.length - 1 - k) * 2 + 1, none⟩ = some (.int .i64 x.s) := by simpa using hcc 1 _ rfl
      clear hcc
      have ei : (xs.length : Int) - 1 - k = ((xs.length - 1 - k : Nat) : Int) := by omega
      rw [ei]
      have hxv : xs[xs.length - 1 - k]?.getD ⟨0, 0⟩ = x := by rw [hxk]; rfl
      obtain ⟨i, hi'⟩ : ∃ i, i = xs.length - 1 - k := ⟨_, rfl⟩
      have hco := comeB_succ xs k
      rw [← hi'] at hxk hc0 hc1 hxv hco ⊢
      rw [hxv] at hco
      have HCO := Lib.hid hco; have HI := Lib.hid hi'
      have hil : i < xs.length := by omega
      clear hco hi' ei hxv hxk
      obtain ⟨fn, tmps, assign, body, hy, hR⟩ := hY _ ((i : Int), x) wr hJs (by rw [comeB_length]; exact hlt)
      dsimp only [encHd] at hy
      gi_wp2
      refine hR.mono ?_
      rintro e W3 (⟨rfl, hJ3, hk3⟩ | ⟨rfl, hJx3⟩)
      · gi_wp2
        go_roundw
        case rel => exact ⟨k + 1, by omega, by have := HI.out; congr 1; omega, by rw [HCO.out]; exact hJ3, hnx.t hk3⟩
        case measure => have := HI.out; first | (simp [intOf]; done) | (simp [intOf]; omega)
      · gi_wp2
        refine bodyPost_ret (results_none rfl _ _ _) rfl ?_
        exact ⟨⟨_, rfl⟩, .inr ⟨_, ⟨k + 1, HCO.out.symm⟩, hJx3⟩⟩
    · obtain rfl : k = xs.length := by omega
      have ei : (xs.length : Int) - 1 - xs.length = -1 := by omega
      rw [ei]
      gi_wp2
      go_end0
      exact ⟨⟨_, rfl⟩, .inl ⟨_, rfl, hJs⟩⟩
theorem backward_stops (F : Fence) (n : Nat) (h7 : F.fn 210) (hro : F.round = none) (hn : 1 ≤ n) (Bs n₀ : Nat) (A : Option Addr) (c lo hi : Nat) (xs : List Hd) (w : World) (hBs : Bs < w.heap.size) (hn₀ : n₀ ≤ w.heap.size) (hhi : hi ≤ n₀)
    (hB : Boxed w Bs 25 (.slice A xs.length c)) (hc : RHdsL w lo hi xs [.slice A xs.length c]) :
    SeqStopsK F n Tryz.prog 210 #[.pointer (some ⟨Bs, 0, none⟩)] encHd (KpB n₀ Bs) (fun ys => ys = comeB xs xs.length) (fun pre => ∃ k, pre = comeB xs k) xs.length w := fun l J Jx W hW _ _ hY h0 =>
  backward1_in F n h7 hro hn l Bs n₀ A c lo hi xs hhi J Jx hY W ((hW.block Bs hBs).trans hB) (RHdsL.loc.below hc (hW.mono hn₀) hhi) h0
/-- A linked log: nodes in blocks from lo on. -/
def LkL (lo : Nat) (W : World) : Option Addr → List Hd → Prop
  | p, [] => p = none
  | p, x :: xs => ∃ (b : Nat) (q : Option Addr), p = some ⟨b, 0, none⟩ ∧ lo ≤ b ∧ Blk W b 198 #[.int .i64 x.b, .int .i64 x.s, .pointer q] ∧ LkL lo W q xs
theorem LkL.go {lo : Nat} {A B : World} (h : ∀ b o, lo ≤ b → A.heap[b]? = some (.cells o 198 (0, 0)) → B.heap[b]? = A.heap[b]?) : ∀ {p : Option Addr} {xs : List Hd}, LkL lo A p xs → LkL lo B p xs
  | _, [], hl => hl
  | _, _ :: _, ⟨b, q, hp, hb, hk, hr⟩ => ⟨b, q, hp, hb, (h b _ hb hk).trans hk, LkL.go h hr⟩
theorem LkL.below {lo : Nat} {A B : World} (h : Below A.heap.size A B) {p : Option Addr} {xs : List Hd} (hl : LkL lo A p xs) : LkL lo B p xs := LkL.go (fun b _ _ hk => h.block b (Array.getElem?_eq_some_iff.1 hk).1) hl
theorem LkL.mono_ {lo lo' : Nat} {W : World} (h : lo' ≤ lo) : ∀ {p : Option Addr} {xs : List Hd}, LkL lo W p xs → LkL lo' W p xs
  | _, [], hl => hl
  | _, _ :: _, ⟨b, q, hp, hb, hk, hr⟩ => ⟨b, q, hp, Nat.le_trans h hb, hk, LkL.mono_ h hr⟩
theorem LkL.own (lo : Nat) (p : Option Addr) (f : List (Int × Hd) → List Hd) : Own (fun s W => LkL lo W p (f s)) := fun s X Y row hs hg hrow => LkL.go (fun b o _ hk => grownBy_keeps_cells hg hrow hk rfl) hs
theorem box_own {β : Type} (B : Nat) (lo : Nat) (f : β → List Hd) : Own (fun s W => ∃ p, Boxed W B 142 (.pointer p) ∧ LkL lo W p (f s)) := fun s X Y row hs hg hrow => by
  obtain ⟨p, h1, h2⟩ := hs
  exact ⟨p, boxed_own B 142 (fun (_ : Unit) => Value.pointer p) () X Y row h1 hg hrow, LkL.go (fun b o _ hk => grownBy_keeps_cells hg hrow hk rfl) h2⟩
set_option maxRecDepth 100000 in
set_option maxHeartbeats 4000000 in
theorem linked_in (F : Fence) (n : Nat) (h3 : F.fn 95) (h4 : F.fn 153) (h5 : F.fn 210) (hro : F.round = none) (hn : 6 ≤ n) (xs : List Hd) (A : Option Addr) (c lo hi : Nat) (w : World) (hc : RHdsL w lo hi xs [.slice A xs.length c]) (hhi : hi ≤ w.heap.size) :
    CallsIn F n Tryz.prog 95 #[.slice A xs.length c] w fun e W' => ∃ p, e = .returned (.pointer p) ∧ LkL w.heap.size W' p xs ∧ Below w.heap.size w W' := by
  have h1 : 1 ≤ n := by omega
  refine callsIn_of_wp_marks Tryz.func95 rfl h3 ?_ hro
  simp only [Tryz.ntmps95, List.size_toArray, List.length_cons, List.length_nil, Nat.reduceAdd, Nat.reduceSub, Array.replicate_succ, Array.replicate_zero, List.push_toArray, List.append_toArray, List.nil_append, List.cons_append]
  gi_wp2_with (gi_at_call 153; refine (backward_in F (n - 1) h4 hro _ _ _ _).mono ?_; rintro e w' ⟨rfl, rfl⟩)
  have bS := (Boxed.new w 142 (.pointer none)).alloc (.cells #[.slice A xs.length c] 25)
  have bA := Boxed.new (w.alloc (.cells #[.pointer none] 142)) 25 (.slice A xs.length c)
  simp only [World.size_alloc] at bA
  have hB0 : Below w.heap.size w ((w.alloc (.cells #[.pointer none] 142)).alloc (.cells #[.slice A xs.length c] 25)) := ((Below.refl _ w).alloc (Nat.le_refl _) _).alloc (by simp) _
  have hsz : ((w.alloc (.cells #[.pointer none] 142)).alloc (.cells #[.slice A xs.length c] 25)).heap.size = w.heap.size + 2 := by simp
  obtain ⟨W0, hW0⟩ : ∃ W0, (w.alloc (.cells #[.pointer none] 142)).alloc (.cells #[.slice A xs.length c] 25) = W0 := ⟨_, rfl⟩
  try simp only [World.size_alloc]
  rw [hW0] at bS bA hB0 hsz ⊢
  clear hW0
  refine wpIn_rangeFunc_ownH hro h1 (gf := 210) (lb := #[.pointer (some ⟨w.heap.size + 1, 0, none⟩)]) rfl h5 (enters_of Tryz.func210 (by kernel_rfl) rfl)
    (backward_stops F (n - 1) h5 hro (by omega) (w.heap.size + 1) w.heap.size A c lo hi xs W0 (by omega) (by omega) hhi bA (RHdsL.loc.below hc hB0 hhi)) KpB.t
    (fun W l o o' hl h hc hw => ⟨belowK_b (w := w) (Nat.le_refl _) W l o o' (by omega) h hc hw, World.putObj_heap_other (by omega)⟩) (Below.refl _ _) (fun _ => rfl)
    (fun pre W => ((∃ p, Boxed W w.heap.size 142 (.pointer p) ∧ LkL (w.heap.size + 2) W p ((pre.map (·.2)).reverse)) ∧ Boxed W (w.heap.size + 1) 25 (.slice A xs.length c)) ∧ Below w.heap.size w W)
    (fun _ _ _ => False)
    (OwnFrom.and (OwnFrom.and (Own.from (box_own _ _ _) _) (Own.from (boxed_own _ _ _) _)) (ownFrom_below (Nat.le_refl _) (by omega)))
    (fun _ _ _ _ _ hs _ _ => hs)
    ⟨⟨⟨none, bS, rfl⟩, bA⟩, hB0⟩
    (fun x a' W => ∃ Bx, w.heap.size + 1 < Bx ∧ Blk W Bx 76 #[.int .i64 x.2.b, .int .i64 x.2.s] ∧ a' = { tmps := #[.slice A xs.length c, undef, .pointer none, .pointer (some ⟨w.heap.size, 0, none⟩), undef, .pointer (some ⟨Bx, 0, none⟩), .slice A xs.length c, .func (.func 210) #[] #[.pointer (some ⟨w.heap.size + 1, 0, none⟩)], .int .i64 x.1, .agg #[.int .i64 x.2.b, .int .i64 x.2.s], undef, undef, undef, undef, undef], defers := [] })
    (fun x a' _ X Y row hs hg hr => by obtain ⟨Bx, h1, h2, h3⟩ := hs; exact ⟨Bx, h1, (grownBy_keeps_cells hg (fun r e => (hr r e).2) h2 rfl).trans h2, h3⟩)
    ?assign ?body ?done ?stop
  case assign =>
    rintro l pre x W K ⟨⟨⟨p, bS1, hl1⟩, bA1⟩, hB1⟩ hK
    gi_wp2
    have hlt := bA1.lt
    exact hK _ _ ((KeepsOthers.alloc _ _).from _) ⟨(Below.refl _ W).alloc hB1.size _, Below.heap_alloc _ _ _ hlt⟩ ⟨⟨⟨p, bS1.alloc _, hl1.below (Below.alloc (Below.refl _ _) (Nat.le_refl _) _)⟩, bA1.alloc _⟩, hB1.alloc hB1.size _⟩ ⟨W.heap.size, hlt, Blk.new _ _ _, rfl⟩
  case body =>
    rintro l pre x a' W hl ⟨r, hr⟩ ⟨⟨⟨p, bS1, hl1⟩, bA1⟩, hB1⟩ ⟨Bx, hBx, bX, rfl⟩ hlt
    have cS := bS1.cell
    have fS := bS1.frozen
    have cX0 := bX.cell 0
    have cX1 := bX.cell 1
    have bS2 := bS1.alloc (.cells #[.int .i64 x.2.b, .int .i64 x.2.s, .pointer p] 198)
    have bA2 := bA1.alloc (.cells #[.int .i64 x.2.b, .int .i64 x.2.s, .pointer p] 198)
    have bN := Blk.new W 198 #[.int .i64 x.2.b, .int .i64 x.2.s, .pointer p]
    have hl2 := hl1.below (Below.alloc (Below.refl _ _) (Nat.le_refl _) (.cells #[.int .i64 x.2.b, .int .i64 x.2.s, .pointer p] 198))
    have hbW : Below w.heap.size W (W.alloc (.cells #[.int .i64 x.2.b, .int .i64 x.2.s, .pointer p] 198)) := (Below.refl _ W).alloc hB1.size _
    have hkW : KeepsOthers W (W.alloc (.cells #[.int .i64 x.2.b, .int .i64 x.2.s, .pointer p] 198)) := KeepsOthers.alloc _ _
    have hlA := bA1.lt
    have heA : (W.alloc (.cells #[.int .i64 x.2.b, .int .i64 x.2.s, .pointer p] 198)).heap[w.heap.size + 1]? = W.heap[w.heap.size + 1]? := Below.heap_alloc _ _ _ hlA
    have cS2 := bS2.cell
    have fS2 := bS2.frozen
    gi_wp2
    have e2 : ((pre ++ [x]).map (·.2)).reverse = x.2 :: (pre.map (·.2)).reverse := by simp
    exact ⟨(hkW.trans (KeepsOthers.setCell _ _ _)).from _, ⟨hbW.setCell (p := ⟨w.heap.size, 0, none⟩) (Nat.le_refl _) _, (Below.heap_setCell _ _ _ _ (by dsimp only; omega)).trans heA⟩,
      ⟨⟨some ⟨W.heap.size, 0, none⟩, bS2.set _, by
        rw [e2]
        exact ⟨W.heap.size, p, rfl, by omega, blk_ne bN _ (by dsimp only; omega), hl2.go fun b o hb hk => Below.heap_setCell _ _ _ _ (by dsimp only; omega)⟩⟩, bA2.other (by omega) _⟩, (hB1.trans hbW).setCell (p := ⟨w.heap.size, 0, none⟩) (Nat.le_refl _) _⟩
  case done =>
    rintro D zs W hD rfl ⟨⟨⟨p, bS1, hl1⟩, bA1⟩, hB1⟩ hK
    have cS := bS1.cell
    gi_wp2
    refine ⟨by simp, .inl ⟨_, _, rfl, run_takeDeferred hK, ?_⟩⟩
    have hbD := belowK_b (w := w) (Nat.le_refl _) W D _ (.deferred none) (by omega) hK rfl rfl
    exact ⟨_, results_tmp rfl _ _ _, p, rfl, by rw [comeB_all] at hl1; exact (hl1.go fun b o hb hk => World.putObj_heap_other (by rintro rfl; rw [hK] at hk; cases hk)).mono_ (by omega), hB1.trans hbD⟩
  case stop =>
    rintro D c pre W _ _ h _
    exact h.elim
end Go.Proofs.YtpdkgpbfmpekgaaGreatDoor
