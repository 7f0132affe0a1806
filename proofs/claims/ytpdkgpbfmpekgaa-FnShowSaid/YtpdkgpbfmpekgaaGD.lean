/- DrSt, DrLi, Lie2. -/
import Derived.Test.YtpdkgpbfmpekgaaGV
import Derived.Test.YtpdkgpbfmpekgaaGX
import Derived.Test.YtpdkgpbfmpekgaaStR
import Derived.Test.YtpdkgpbfmpekgaaGL
import Derived.Test.YtpdkgpbfmpekgaaEf



/- Draw of a store. -/
namespace Go.Proofs.Ytpdkgpbfmpekgaa
open Go.RowKit

theorem OSto.set {w : World} {lo hi : Nat} {s : Sto} {va vb vc : Value} (h : OSto w lo hi s va vb vc) {g : Nat} {cs : Array Value} (hk : Blk w g 27 cs) (i : Nat) (u : Value) : OSto (w.setCell ⟨g, i, none⟩ u) lo hi s va vb vc :=
  ⟨tl_set' OPks.tloc h.pk hk (by decide) i u, tl_set' OSns.tloc h.sn hk (by decide) i u, tl_set' OHds.tloc h.lg hk (by decide) i u⟩
theorem OSto.wide {w : World} {lo hi lo' hi' : Nat} {s : Sto} {va vb vc : Value} (h : OSto w lo hi s va vb vc) (h1 : lo' ≤ lo) (h2 : hi ≤ hi') : OSto w lo' hi' s va vb vc := h.go (fun _ _ _ => rfl) h1 h2
theorem OSto.form {w : World} {lo hi : Nat} {s : Sto} {va vb vc : Value} (h : OSto w lo hi s va vb vc) : (∃ A a, va = .slice A s.pk.length a) ∧ (∃ B b, vb = .slice B s.sn.length b) ∧ ∃ C c, vc = .slice C s.lg.length c := ⟨h.pk.form, h.sn.form, h.lg.form⟩
theorem OSto.chg {w w' : World} {lo hi : Nat} {s : Sto} {va vb vc : Value} (h : OSto w lo hi s va vb vc) {S : Nat → Prop} (hc : Chg S w w') (hS : ∀ b, lo ≤ b → b < hi → b < w.heap.size ∧ ¬ S b) : OSto w' lo hi s va vb vc :=
  h.go (fun b h1 h2 => hc.block b (hS b h1 h2).1 (hS b h1 h2).2) (Nat.le_refl _) (Nat.le_refl _)
theorem three_of {cs : Array Value} (h : cs.size = 3) : ∃ a b c, cs = #[a, b, c] := by
  obtain ⟨l⟩ := cs
  match l, h with
  | [a, b, c], _ => exact ⟨a, b, c, rfl⟩
theorem chg_three (w : World) (g : Nat) (a b c : Value) : Chg (fun x => x = g) w (((w.setCell ⟨g, 0, none⟩ a).setCell ⟨g, 1, none⟩ b).setCell ⟨g, 2, none⟩ c) := (((Chg.refl (fun x => x = g) w).setCell (S := fun x => x = g) (p := ⟨g, 0, none⟩) (.inl rfl) a).setCell (S := fun x => x = g) (p := ⟨g, 1, none⟩) (.inl rfl) b).setCell (S := fun x => x = g) (p := ⟨g, 2, none⟩) (.inl rfl) c
section
variable {w : World} {lo hi g : Nat} {l : List Int} {N s ia ic bk : Nat} {fx : Bool} {ty : TypeId} {n : Nat} {S : Nat → Prop} {pre : List Nat}
/-- What the save gave, in blocks that the region leaves alone. -/
def StCall (u : Value) (x : PastS w lo hi g l N s ia ic bk fx ty n S pre) : Prop :=
  ∃ va vb vc q r L H, u = .tuple #[.agg #[va, vb, vc], .bool q] ∧ OSto x.to L H r va vb vc ∧ (∀ b, L ≤ b → b < H → x.free b) ∧ w.heap.size ≤ L ∧ H ≤ x.to.heap.size ∧ (q = true → Saved r)
theorem StCall.le {u : Value} {x y : PastS w lo hi g l N s ia ic bk fx ty n S pre} (h : StCall u x) (hl : PastS.le x y) : StCall u y := by
  obtain ⟨va, vb, vc, q, r, L, H, rfl, ho, hf, hL, hH, hq⟩ := h
  exact ⟨va, vb, vc, q, r, L, H, rfl, ho.go (fun b h1 h2 => hl.chg.block b (hf b h1 h2).1 (hl.not (hf b h1 h2))) (Nat.le_refl _) (Nat.le_refl _), fun b h1 h2 => hl.free (hf b h1 h2), hL, Nat.le_trans hH hl.chg.size, hq⟩
theorem StCall.new {va vb vc : Value} {r : Sto} {q : Bool} (x : PastS w lo hi g l N s ia ic bk fx ty n S pre) {w2 : World} (hb : Below x.to.heap.size x.to w2) (ho : OSto w2 x.to.heap.size w2.heap.size r va vb vc) (hq : q = true → Saved r) (hg : g < w.heap.size) (v : Value) : StCall (.tuple #[.agg #[va, vb, vc], .bool q]) (x.told hb v) := by
  have hs := x.ok.size
  exact ⟨va, vb, vc, q, r, _, _, rfl, ho, fun b h1 h2 => ⟨h2, by omega, fun e => (by
    obtain ⟨_, _, cs, _, hk⟩ := x.bx b e
    have := hk.lt
    omega), fun e => (by have := x.sf b e; omega)⟩, hs, Nat.le_refl _, hq⟩
/-- The box holds what the save gave. -/
def StFull (x : PastS w lo hi g l N s ia ic bk fx ty n S pre) : Prop :=
  x.done = true ∧ ∃ b va vb vc q, x.box = some b ∧ x.res = some (.tuple #[.agg #[va, vb, vc], .bool q]) ∧ Blk x.to b ty #[va, vb, vc]
theorem StFull.le {x y : PastS w lo hi g l N s ia ic bk fx ty n S pre} (h : StFull x) (hl : PastS.le x y) : StFull y := by
  obtain ⟨hd, b, va, vb, vc, q, hb, hr, hk⟩ := h
  obtain ⟨h1, h2, h3⟩ := hl.full hd hb hk
  exact ⟨h1, b, va, vb, vc, q, h2, hl.res _ hr, h3⟩
end
structure StTup (u va vb vc : Value) (q : Bool) : Prop where
  eq : u = .tuple #[.agg #[va, vb, vc], .bool q]
  a : ∃ A m c, va = .slice A m c
  b : ∃ A m c, vb = .slice A m c
  c : ∃ A m c, vc = .slice A m c
theorem StTup.of {w : World} {lo hi : Nat} {va vb vc : Value} {r : Sto} {q : Bool} (h : OSto w lo hi r va vb vc) : StTup (.tuple #[.agg #[va, vb, vc], .bool q]) va vb vc q := by
  obtain ⟨⟨A, a, rfl⟩, ⟨B, b, rfl⟩, C, c, rfl⟩ := h.form
  exact ⟨rfl, ⟨_, _, _, rfl⟩, ⟨_, _, _, rfl⟩, ⟨_, _, _, rfl⟩⟩
/-- What l92Store gives. -/
def StorePost (w : World) (lo hi g : Nat) (l : List Int) (p : Nat) (e : Ending) (w' : World) : Prop :=
  ∃ va vb vc s q, e = .returned (.agg #[va, vb, vc]) ∧ OSto w' w.heap.size w'.heap.size s va vb vc ∧ Saved s ∧ Rd w' lo hi g l q ∧ q ≤ p + 700 ∧ Chg (fun b => b = g) w w'
/-- What its loop holds on to. -/
structure DsSt (w wr : World) (lo hi g : Nat) (l : List Int) (q gs : Nat) (va vb vc tt : Value) (s : Sto) (t : List Nd) : Prop where
  k0 : Blk wr w.heap.size 27 #[.slice none 0 0, .slice none 0 0, .slice none 0 0]
  ks : Blk wr gs 27 #[va, vb, vc]
  os : OSto wr w.heap.size wr.heap.size s va vb vc
  sv : Saved s
  ot : OwnF FNd 96 wr w.heap.size tt t
  ft : Fine t
  rd : Rd wr lo hi g l q
  ch : Chg (fun b => b = g) w wr
  gs1 : w.heap.size < gs
  gw : g < w.heap.size
theorem DsSt.chg {w wr w' : World} {lo hi g : Nat} {l : List Int} {q q' gs : Nat} {va vb vc tt : Value} {s : Sto} {t : List Nd} (h : DsSt w wr lo hi g l q gs va vb vc tt s t) (hc : Chg (fun b => b = g) wr w') (hr : Rd w' lo hi g l q') : DsSt w w' lo hi g l q' gs va vb vc tt s t := by
  have hg := h.gw
  have h1 := h.gs1
  exact ⟨blk_chg h.k0 hc (by omega), blk_chg h.ks hc (by omega), (h.os.chg hc fun b h1 h2 => ⟨h2, by omega⟩).wide (Nat.le_refl _) hc.size, h.sv, h.ot.chg hc fun b hb e => by have := (h.ot.at_ hb).1; omega, h.ft, hr, h.ch.trans hc fun i _ e => e, h1, hg⟩
theorem DsSt.tree {w wr : World} {lo hi g : Nat} {l : List Int} {q gs : Nat} {va vb vc tt tt' : Value} {s : Sto} {t t' : List Nd} (h : DsSt w wr lo hi g l q gs va vb vc tt s t) (ho : OwnF FNd 96 wr w.heap.size tt' t') (hf : Fine t') : DsSt w wr lo hi g l q gs va vb vc tt' s t' :=
  ⟨h.k0, h.ks, h.os, h.sv, ho, hf, h.rd, h.ch, h.gs1, h.gw⟩
theorem fine_nds {t : List Nd} (h : Fine t) : ∀ x ∈ t, FNd.good x := fine_good h
set_option maxRecDepth 8000 in
set_option maxHeartbeats 8000000 in
theorem l92Store_any (l : List Int) (g p lo hi : Nat) (w : World) (hr : Rd w lo hi g l p) (hp : p ≤ 10000) :
    Calls Try.prog 13 #[.pointer (some ⟨g, 0, none⟩)] w (StorePost w lo hi g l p) := by
  have hrg := hr.lt
  have hhg := hr.hi_
  go_enter Try.func13, Try.ntmps13
  go_wp2_with fail
  have hbw0 : Below w.heap.size w (((((w.alloc (.cells #[.slice none 0 0, .slice none 0 0, .slice none 0 0] 27)).alloc (.cells #[] 37)).alloc (.cells #[] 52)).alloc (.cells #[] 59)).alloc (.cells #[.slice (some ⟨w.heap.size + 1, 0, none⟩) 0 0, .slice (some ⟨w.heap.size + 1 + 1, 0, none⟩) 0 0, .slice (some ⟨w.heap.size + 1 + 1 + 1, 0, none⟩) 0 0] 27)) := below_alloc' (below_alloc' (below_alloc' (below_alloc' (below_alloc _ _) _) _) _) _
  have k0 : Blk (((((w.alloc (.cells #[.slice none 0 0, .slice none 0 0, .slice none 0 0] 27)).alloc (.cells #[] 37)).alloc (.cells #[] 52)).alloc (.cells #[] 59)).alloc (.cells #[.slice (some ⟨w.heap.size + 1, 0, none⟩) 0 0, .slice (some ⟨w.heap.size + 1 + 1, 0, none⟩) 0 0, .slice (some ⟨w.heap.size + 1 + 1 + 1, 0, none⟩) 0 0] 27)) (w.heap.size) 27 #[.slice none 0 0, .slice none 0 0, .slice none 0 0] := by
    have hk := blk_alloc (blk_alloc (blk_alloc (blk_alloc (Blk.new w 27 #[.slice none 0 0, .slice none 0 0, .slice none 0 0]) (.cells #[] 37)) (.cells #[] 52)) (.cells #[] 59)) (.cells #[.slice (some ⟨w.heap.size + 1, 0, none⟩) 0 0, .slice (some ⟨w.heap.size + 1 + 1, 0, none⟩) 0 0, .slice (some ⟨w.heap.size + 1 + 1 + 1, 0, none⟩) 0 0] 27)
    exact hk
  have k1 : Blk (((((w.alloc (.cells #[.slice none 0 0, .slice none 0 0, .slice none 0 0] 27)).alloc (.cells #[] 37)).alloc (.cells #[] 52)).alloc (.cells #[] 59)).alloc (.cells #[.slice (some ⟨w.heap.size + 1, 0, none⟩) 0 0, .slice (some ⟨w.heap.size + 1 + 1, 0, none⟩) 0 0, .slice (some ⟨w.heap.size + 1 + 1 + 1, 0, none⟩) 0 0] 27)) (w.heap.size + 1) 37 #[] := by
    have hk := blk_alloc (blk_alloc (blk_alloc (Blk.new (w.alloc (.cells #[.slice none 0 0, .slice none 0 0, .slice none 0 0] 27)) 37 #[]) (.cells #[] 52)) (.cells #[] 59)) (.cells #[.slice (some ⟨w.heap.size + 1, 0, none⟩) 0 0, .slice (some ⟨w.heap.size + 1 + 1, 0, none⟩) 0 0, .slice (some ⟨w.heap.size + 1 + 1 + 1, 0, none⟩) 0 0] 27)
    simp only [World.size_alloc] at hk
    exact hk
  have k2 : Blk (((((w.alloc (.cells #[.slice none 0 0, .slice none 0 0, .slice none 0 0] 27)).alloc (.cells #[] 37)).alloc (.cells #[] 52)).alloc (.cells #[] 59)).alloc (.cells #[.slice (some ⟨w.heap.size + 1, 0, none⟩) 0 0, .slice (some ⟨w.heap.size + 1 + 1, 0, none⟩) 0 0, .slice (some ⟨w.heap.size + 1 + 1 + 1, 0, none⟩) 0 0] 27)) (w.heap.size + 1 + 1) 52 #[] := by
    have hk := blk_alloc (blk_alloc (Blk.new ((w.alloc (.cells #[.slice none 0 0, .slice none 0 0, .slice none 0 0] 27)).alloc (.cells #[] 37)) 52 #[]) (.cells #[] 59)) (.cells #[.slice (some ⟨w.heap.size + 1, 0, none⟩) 0 0, .slice (some ⟨w.heap.size + 1 + 1, 0, none⟩) 0 0, .slice (some ⟨w.heap.size + 1 + 1 + 1, 0, none⟩) 0 0] 27)
    simp only [World.size_alloc] at hk
    exact hk
  have k3 : Blk (((((w.alloc (.cells #[.slice none 0 0, .slice none 0 0, .slice none 0 0] 27)).alloc (.cells #[] 37)).alloc (.cells #[] 52)).alloc (.cells #[] 59)).alloc (.cells #[.slice (some ⟨w.heap.size + 1, 0, none⟩) 0 0, .slice (some ⟨w.heap.size + 1 + 1, 0, none⟩) 0 0, .slice (some ⟨w.heap.size + 1 + 1 + 1, 0, none⟩) 0 0] 27)) (w.heap.size + 1 + 1 + 1) 59 #[] := by
    have hk := blk_alloc (Blk.new (((w.alloc (.cells #[.slice none 0 0, .slice none 0 0, .slice none 0 0] 27)).alloc (.cells #[] 37)).alloc (.cells #[] 52)) 59 #[]) (.cells #[.slice (some ⟨w.heap.size + 1, 0, none⟩) 0 0, .slice (some ⟨w.heap.size + 1 + 1, 0, none⟩) 0 0, .slice (some ⟨w.heap.size + 1 + 1 + 1, 0, none⟩) 0 0] 27)
    simp only [World.size_alloc] at hk
    exact hk
  have k4 : Blk (((((w.alloc (.cells #[.slice none 0 0, .slice none 0 0, .slice none 0 0] 27)).alloc (.cells #[] 37)).alloc (.cells #[] 52)).alloc (.cells #[] 59)).alloc (.cells #[.slice (some ⟨w.heap.size + 1, 0, none⟩) 0 0, .slice (some ⟨w.heap.size + 1 + 1, 0, none⟩) 0 0, .slice (some ⟨w.heap.size + 1 + 1 + 1, 0, none⟩) 0 0] 27)) (w.heap.size + 1 + 1 + 1 + 1) 27 #[.slice (some ⟨w.heap.size + 1, 0, none⟩) 0 0, .slice (some ⟨w.heap.size + 1 + 1, 0, none⟩) 0 0, .slice (some ⟨w.heap.size + 1 + 1 + 1, 0, none⟩) 0 0] := by
    have hk := Blk.new ((((w.alloc (.cells #[.slice none 0 0, .slice none 0 0, .slice none 0 0] 27)).alloc (.cells #[] 37)).alloc (.cells #[] 52)).alloc (.cells #[] 59)) 27 #[.slice (some ⟨w.heap.size + 1, 0, none⟩) 0 0, .slice (some ⟨w.heap.size + 1 + 1, 0, none⟩) 0 0, .slice (some ⟨w.heap.size + 1 + 1 + 1, 0, none⟩) 0 0]
    simp only [World.size_alloc] at hk
    exact hk
  have hsw0 : w.heap.size + 5 ≤ (((((w.alloc (.cells #[.slice none 0 0, .slice none 0 0, .slice none 0 0] 27)).alloc (.cells #[] 37)).alloc (.cells #[] 52)).alloc (.cells #[] 59)).alloc (.cells #[.slice (some ⟨w.heap.size + 1, 0, none⟩) 0 0, .slice (some ⟨w.heap.size + 1 + 1, 0, none⟩) 0 0, .slice (some ⟨w.heap.size + 1 + 1 + 1, 0, none⟩) 0 0] 27)).heap.size := by simp only [World.size_alloc]; omega
  generalize (((((w.alloc (.cells #[.slice none 0 0, .slice none 0 0, .slice none 0 0] 27)).alloc (.cells #[] 37)).alloc (.cells #[] 52)).alloc (.cells #[] 59)).alloc (.cells #[.slice (some ⟨w.heap.size + 1, 0, none⟩) 0 0, .slice (some ⟨w.heap.size + 1 + 1, 0, none⟩) 0 0, .slice (some ⟨w.heap.size + 1 + 1 + 1, 0, none⟩) 0 0] 27)) = w0 at *
  have ck0 := k0.cell
  have fk0 := k0.frozen
  have ck1 := k1.cell
  have fk1 := k1.frozen
  have ck2 := k2.cell
  have fk2 := k2.frozen
  have ck3 := k3.cell
  have fk3 := k3.frozen
  have ck4 := k4.cell
  have fk4 := k4.frozen
  have os0 : OSto w0 w.heap.size w0.heap.size ⟨[], [], []⟩ (.slice (some ⟨w.heap.size + 1, 0, none⟩) 0 0) (.slice (some ⟨w.heap.size + 1 + 1, 0, none⟩) 0 0) (.slice (some ⟨w.heap.size + 1 + 1 + 1, 0, none⟩) 0 0) :=
    ⟨Lit0.orow ⟨_, rfl, by omega, k1⟩ (Nat.le_refl _), Lit0.orow ⟨_, rfl, by omega, k2⟩ (Nat.le_refl _), Lit0.orow ⟨_, rfl, by omega, k3⟩ (Nat.le_refl _)⟩
  have chw : Chg (fun b => b = g) w w0 := Chg.of_below hbw0
  have rd0 := hr.chg (Chg.of_below (S := fun _ => False) hbw0) fun _ _ h => h
  clear k1 k2 k3 ck0 ck1 ck2 ck3 ck4 fk0 fk1 fk2 fk3 fk4 hbw0 hr
  refine (l91Fine_any l g p lo hi w0 rd0 (by omega)).mono ?_
  rintro e w1 ⟨vt, t0, q1, rfl, ot, hft, rd1, hq1, hc1⟩
  have hds : DsSt w w1 lo hi g l q1 (w.heap.size + 1 + 1 + 1 + 1) (.slice (some ⟨w.heap.size + 1, 0, none⟩) 0 0) (.slice (some ⟨w.heap.size + 1 + 1, 0, none⟩) 0 0) (.slice (some ⟨w.heap.size + 1 + 1 + 1, 0, none⟩) 0 0) vt ⟨[], [], []⟩ t0 :=
    ⟨blk_chg k0 hc1 (by omega), blk_chg k4 hc1 (by omega), (os0.chg hc1 fun b h1 h2 => ⟨h2, by omega⟩).wide (Nat.le_refl _) hc1.size, Saved.nil, ot.base (by omega), hft, rd1, chw.trans hc1 fun i _ e => e, by omega, hrg⟩
  clear k0 k4 os0 chw ot hft hc1 rd0
  obtain ⟨gs, hgs⟩ : ∃ gs, gs = w.heap.size + 1 + 1 + 1 + 1 := ⟨_, rfl⟩
  rw [← hgs] at hds ⊢
  clear hgs
  go_wp2_with fail
  refine (pick_any _ _ _ _ _ _ 5 hds.rd (by omega)).mono ?_
  rintro e w2 ⟨m, rfl, ⟨_, hm⟩, rd2, hc2⟩
  have hm2 := hm (by omega)
  obtain ⟨mm, rfl⟩ := Int.eq_ofNat_of_zero_le (show 0 ≤ m by omega)
  have HDS := Lib.hid (hds.chg hc2 rd2)
  clear hm rd1 rd2 hc2 hds
  go_wp2_with fail
  go_loopw [4, 5] (fun tt jj wr => ∃ (j q : Nat) (s : Sto) (t : List Nd) (va vb vc : Value), j ≤ 4 ∧ jj = .int .i64 j ∧ DsSt w wr lo hi g l q gs va vb vc tt s t ∧ q + 60 * j ≤ p + 600) (fun _ jj _ => (intOf jj).toNat)
  case atStart => exact ⟨mm, _, _, _, _, _, _, by omega, rfl, HDS.out, by omega⟩
  case round =>
    clear HDS
    obtain ⟨j, q, s, t, va, vb, vc, hj, rfl, hds, hq⟩ := hrel
    obtain ⟨⟨A, a, rfl⟩, ⟨B, b, rfl⟩, C, c, rfl⟩ := hds.os.form
    obtain ⟨T, d, rfl⟩ := hds.ot.form
    have cka : wr.cell? ⟨gs, 0, none⟩ = some (.slice A s.pk.length a) := hds.ks.cell 0
    have ckb : wr.cell? ⟨gs, 1, none⟩ = some (.slice B s.sn.length b) := hds.ks.cell 1
    have ckc : wr.cell? ⟨gs, 2, none⟩ = some (.slice C s.lg.length c) := hds.ks.cell 2
    have hg1 := hds.gs1
    have hgw := hds.gw
    have hgl := hds.ks.lt
    have zr := hds.ch.size
    have HD := Lib.hid hds
    by_cases h0 : j = 0
    · subst h0
      have ck0 := hds.k0.cell
      have fk0 := hds.k0.frozen
      clear hds
      go_wp2_with fail
      have k4 := ((HD.out.k0.set_ 0 (.slice A s.pk.length a)).set_ 1 (.slice B s.sn.length b)).set_ 2 (.slice C s.lg.length c)
      simp only [List.setIfInBounds_toArray, List.set_cons_zero, List.set_cons_succ] at k4
      have ck4 := k4.cell
      refine bodyPost_ret (v := .agg #[.slice A s.pk.length a, .slice B s.sn.length b, .slice C s.lg.length c]) (by simp [results, Try.results13, go_sem, ck4]) rfl ⟨_, _, _, s, q, rfl, ?_, HD.out.sv, ?_, by omega, ?_⟩
      · simp only [World.size_setCell]
        exact ((HD.out.os.set HD.out.k0 0 _).set (HD.out.k0.set_ 0 _) 1 _).set ((HD.out.k0.set_ 0 _).set_ 1 _) 2 _
      · exact HD.out.rd.chg (chg_three _ _ _ _ _) fun b hb e => by have := HD.out.gw; omega
      · exact HD.out.ch.trans (chg_three _ _ _ _ _) fun i hi e => by omega
    · have t0 : decide (0 < j) = true := decide_eq_true (by omega)
      clear hds
      have rd := HD.out.rd
      go_wp2_with fail
      refine region_stT (N := q + 12) (s := 10) (ia := 9) (ic := 5) (bk := wr.heap.size) (fx := false) (ty := 27) (n := 3) (S := fun _ => False) (pre := []) 12 q [1, 4] [0, 2, 3, 5, 6, 7, 8, 9, 10, 11] (by kernel_rfl) (by kernel_rfl) (by kernel_rfl) rd (Nat.le_refl _) none (fun b hb => by cases hb) (fun h => by cases h) (fun b hb => hb.elim) (fun b hb => by cases hb) (.inl rfl) ?_
      simp only [pick, List.map, List.getD_cons_zero, List.getD_cons_succ]
      repeat (go_big_quiet_step (fail))
      refine wpQuiet_nil ?_
      apply Exists.intro
      apply st_look (fun v => v = .agg #[.slice A s.pk.length a, .slice B s.sn.length b, .slice C s.lg.length c])
      · rfl
      · intro x _ Qx hQ'
        have hQ := Lib.hid hQ'; clear hQ'
        have ca := pasts_cell (x := x) cka (by show gs ≠ g; omega) (by show gs ≠ _; omega) (fun h => h)
        have cb := pasts_cell (x := x) ckb (by show gs ≠ g; omega) (by show gs ≠ _; omega) (fun h => h)
        have cc := pasts_cell (x := x) ckc (by show gs ≠ g; omega) (by show gs ≠ _; omega) (fun h => h)
        go_wp2_with fail
        exact hQ.out _ rfl
      intro ux
      simp only [Act.put, List.setIfInBounds_toArray, List.set_cons_zero, List.set_cons_succ]
      apply st_pick (fun v => ∃ m : Int, v = .int .i64 m ∧ 0 ≤ m ∧ m < 2)
      · rfl
      · intro x _ hN Qx hQ'
        have hQ := Lib.hid hQ'; clear hQ'
        go_wp2_with fail
        refine (pick_any _ _ _ _ _ _ 2 x.rd (by omega)).mono ?_
        rintro e wy ⟨m, rfl, ⟨_, q1⟩, rdy, hcy⟩
        obtain ⟨q2, q3⟩ := q1 (by omega)
        go_wp2_with fail
        exact hQ.out _ _ rdy hcy ⟨m, rfl, q2, q3⟩
      intro u2
      simp only [Act.put, List.setIfInBounds_toArray, List.set_cons_zero, List.set_cons_succ]
      apply st_look (fun v => ∃ m : Int, v = .int .i64 m ∧ 1 ≤ m ∧ m ≤ 2)
      · rfl
      · intro x hF Qx hQ'
        have hQ := Lib.hid hQ'; clear hQ'
        obtain ⟨m, rfl, q1, q2⟩ := hF.1 (by kernel_rfl)
        go_wp2_with fail
        exact hQ.out _ ⟨_, rfl, by omega, by omega⟩
      intro u3
      simp only [Act.put, List.setIfInBounds_toArray, List.set_cons_zero, List.set_cons_succ]
      apply st_call (fun v x => StCall v x)
      · rfl
      · rfl
      · exact fun v x y h hl => h.le hl
      · intro x hF Qx hQ'
        have hQ := Lib.hid hQ'; clear hQ'
        obtain ⟨m3, rfl, i1, i2⟩ := hF.1 (by kernel_rfl)
        cases hF.2.2.1 (by kernel_rfl)
        clear hF
        have hof : ∀ b, w.heap.size ≤ b → b < wr.heap.size → b < wr.heap.size ∧ ¬ (b = g ∨ x.box = some b ∨ x.done = true ∧ False) := fun b h1 h2 => ⟨h2, fun e => by
          rcases e with e | e | e
          · have := HD.out.gw; omega
          · rcases x.bw b e with e | e <;> omega
          · exact e.2⟩
        have ox := HD.out.os.chg x.ok hof
        have tx := HD.out.ot.chg x.ok fun b hb => (hof b (HD.out.ot.at_ hb).1 (HD.out.ot.at_ hb).2).2
        have zx := x.ok.size
        have wf := HD.out.sv.wf
        have tr := (tx.deep (fine_nds HD.out.ft) 0).sl (Nat.zero_le _)
        go_wp2_with fail
        refine (l21Save_any 7 (by omega) s m3 (by unfold In64; omega) t (fine_text HD.out.ft) (by have := HD.out.ft.2; omega) wf.small wf.spots (by have := wf.bulk; omega) _ _ _ _ x.to _ _ 0 x.to.heap.size ox zx tr (Nat.le_refl _)).mono ?_
        rintro e wy ⟨v1, v2, v3, qq, r, rfl, oy, hqr, by5⟩
        go_wp2_with fail
        exact hQ.out _ _ by5 (StCall.new x by5 oy (fun hqt => by
          rcases hqr with ⟨_, h1, rfl⟩ | ⟨h1, _⟩
          · exact HD.out.sv.save (by omega) HD.out.ft h1
          · rw [hqt] at h1; cases h1) (by have := HD.out.gw; omega) _)
      intro u5
      simp only [Act.put, List.setIfInBounds_toArray, List.set_cons_zero, List.set_cons_succ]
      apply st_see (fun v u => v = u ∧ ∃ va vb vc q, StTup u va vb vc q)
      · rfl
      · intro x hF Qx hQ'
        have hQ := Lib.hid hQ'; clear hQ'
        obtain ⟨⟨v1, v2, v3, qq, r, L, H, rfl, ho, _⟩, hu⟩ := hF.1 (by kernel_rfl)
        clear hF
        go_wp2_with fail
        exact hQ.out _ _ hu ⟨rfl, _, _, _, _, StTup.of ho⟩
      intro u6
      simp only [Act.put, List.setIfInBounds_toArray, List.set_cons_zero, List.set_cons_succ]
      apply st_see (fun v u => ∃ va vb vc q, StTup u va vb vc q ∧ v = .agg #[va, vb, vc])
      · rfl
      · intro x hF Qx hQ'
        have hQ := Lib.hid hQ'; clear hQ'
        obtain ⟨u, hu, rfl, v1, v2, v3, qq, ht⟩ := hF.1 (by kernel_rfl)
        have e := ht.eq
        subst e
        clear hF
        go_wp2_with fail
        exact hQ.out _ _ hu ⟨_, _, _, _, ht, rfl⟩
      intro u7
      simp only [Act.put, List.setIfInBounds_toArray, List.set_cons_zero, List.set_cons_succ]
      apply st_see (fun v u => ∃ va vb vc q, StTup u va vb vc q ∧ v = .bool q)
      · rfl
      · intro x hF Qx hQ'
        have hQ := Lib.hid hQ'; clear hQ'
        obtain ⟨u, hu, rfl, v1, v2, v3, qq, ht⟩ := hF.2.1 (by kernel_rfl)
        have e := ht.eq
        subst e
        clear hF
        go_wp2_with fail
        exact hQ.out _ _ hu ⟨_, _, _, _, ht, rfl⟩
      intro u8
      simp only [Act.put, List.setIfInBounds_toArray, List.set_cons_zero, List.set_cons_succ]
      apply st_alloc (cs := #[.slice none 0 0, .slice none 0 0, .slice none 0 0])
      · rfl
      · rfl
      · decide
      · have := HD.out.gw; omega
      · rfl
      · intro x Qx hQ'
        have hQ := Lib.hid hQ'; clear hQ'
        go_wp2_with fail
        exact hQ.out
      intro u9
      simp only [Act.put, List.setIfInBounds_toArray, List.set_cons_zero, List.set_cons_succ]
      apply st_store (fun x => StFull x)
      · rfl
      · exact fun j hj => (by cases hj)
      · exact fun x y h hl => h.le hl
      · intro x hF hdn Qx hQ'
        have hQ := Lib.hid hQ'; clear hQ'
        obtain ⟨b6, rfl, hbb, hbx⟩ := hF.1 (by kernel_rfl)
        obtain ⟨u, hu, v1, v2, v3, qq, ht, rfl⟩ := hF.2.2.1 (by kernel_rfl)
        clear hF
        have e := ht.eq
        subst e
        obtain ⟨A1, m1, c1, rfl⟩ := ht.a
        obtain ⟨B1, k1, d1, rfl⟩ := ht.b
        obtain ⟨C1, k2, d2, rfl⟩ := ht.c
        obtain ⟨hbg, hbh, cs, hcs, hkb⟩ := x.bx _ hbx
        obtain ⟨ca, cb, cc, rfl⟩ := three_of hcs
        have ckb := hkb.cell
        have fkb := hkb.frozen
        go_wp2_with fail
        exact hQ.out _ hbx _ (chg_three _ _ _ _ _) _ rfl (((hkb.set_ 0 _).set_ 1 _).set_ 2 _) ⟨rfl, _, _, _, _, _, hbx, hu, ((hkb.set_ 0 _).set_ 1 _).set_ 2 _⟩
      · rfl
      simp only [Act.put, List.setIfInBounds_toArray, List.set_cons_zero, List.set_cons_succ]
      apply st_see (fun v u => ∃ va vb vc q, StTup u va vb vc q ∧ v = .bool q)
      · rfl
      · intro x hF Qx hQ'
        have hQ := Lib.hid hQ'; clear hQ'
        obtain ⟨u, hu, v1, v2, v3, qq, ht, rfl⟩ := hF.2.2.1 (by kernel_rfl)
        clear hF
        go_wp2_with fail
        exact hQ.out _ _ hu ⟨_, _, _, _, ht, rfl⟩
      intro u11
      simp only [Act.put, List.setIfInBounds_toArray, List.set_cons_zero, List.set_cons_succ]
      refine st_end fun x hF => ?_
      simp only [allF] at hF
      obtain ⟨⟨u, hu, v1, v2, v3, qq, ht, rfl⟩, ⟨hdn, gy, v1', v2', v3', qq', hgy, hu2, ky⟩, ⟨gy', rfl, hgy0, hgy'⟩, -, -, -, ⟨⟨x1, x2, x3, qq2, r, L, H, rfl, oy, fy, hL, hH, hsv⟩, hu3⟩, -⟩ := hF
      have e := ht.eq
      subst e
      rw [hu] at hu2 hu3
      cases hu2; cases hu3
      rw [hgy] at hgy'
      cases hgy'
      obtain ⟨⟨A1, a1, rfl⟩, ⟨B1, b1, rfl⟩, C1, c1, rfl⟩ := oy.form
      have hcx : Chg (fun b => b = g) wr x.to := x.ok.mono fun b hb e => by
        rcases e with e | e | ⟨_, e⟩
        · exact e
        · rcases x.bw b e with e | e <;> omega
        · exact e.elim
      have hd4 := HD.out.chg hcx x.rd
      have hql : x.q ≤ q + 12 := x.lim
      have zx := hcx.size
      simp only [List.drop]
      clear hu ht hdn hgy fy HD rd cka ckb ckc hcx
      revert zx; revert hH; revert oy; revert ky; revert hql; revert hd4
      generalize x.to = w4
      generalize x.q = q4
      clear x
      intro hd4 hq4 ky oy hH zx
      have HD := Lib.hid hd4
      have hg4 := hd4.ks.lt
      have HSV := Lib.hid hsv
      clear hd4 hsv
      cases qq with
      | false =>
        clear ky oy HSV
        go_wp2_with fail
        refine (l91Path_any l g q4 lo hi w4 HD.out.rd (by omega)).mono ?_
        rintro e w6 ⟨sp, q6, rfl, hs9, rd6, hq6, hc6⟩
        have HD6 := Lib.hid (HD.out.chg hc6 rd6)
        clear rd6 hc6 HD
        go_wp2_with fail
        refine (l91Text_any l g q6 lo hi w6 HD6.out.rd (by omega)).mono ?_
        rintro e w7 ⟨tx, q7, rfl, htx, rd7, hq7, hc7⟩
        have HD7 := Lib.hid (HD6.out.chg hc7 rd7)
        clear rd7 hc7 HD6
        have r7 := ((HD7.out.ot.deep (fine_nds HD7.out.ft) 0).sl (Nat.zero_le _))
        have HR7 := Lib.hid r7
        clear r7
        go_wp2_with fail
        refine (TreePut_any t sp tx (by unfold maxLen; omega) (by unfold maxLen; omega) _ w7 0 w7.heap.size HR7.out (Nat.le_refl _) (by have := HD7.out.ft.2; omega)).mono ?_
        rintro e w8 ⟨v8, zs, put, rfl, o8, hfz, b8⟩
        have z7 := HD7.out.ch.size
        have HD8 := Lib.hid (HD7.out.chg (Chg.of_below (S := fun b => b = g) b8) (HD7.out.rd.chg (Chg.of_below (S := fun _ => False) b8) fun _ _ h => h))
        have HT8 := Lib.hid (And.intro (o8.base z7) hfz)
        obtain ⟨A8, c8, rfl⟩ := o8.form
        clear HD7 HR7 o8 hfz b8
        cases put with
        | false =>
          clear HT8
          go_wp2_with fail
          refine (pick_any _ _ _ _ _ _ 3 (HD8).out.rd (by omega)).mono ?_
          rintro e w10 ⟨m10, rfl, ⟨_, hm10⟩, rd10, hc10⟩
          have HD10 := Lib.hid ((HD8).out.chg hc10 rd10)
          clear hm10 rd10 hc10 HD8
          by_cases m0 : m10 = 0
          · have t5 : (m10 == 0) = true := beq_iff_eq.2 m0
            clear m0
            go_wp2_with fail
            refine (l91Path_any l g _ lo hi w10 HD10.out.rd (by omega)).mono ?_
            rintro e w11 ⟨sp2, q11, rfl, hs11, rd11, hq11, hc11⟩
            have HD11 := Lib.hid (HD10.out.chg hc11 rd11)
            clear rd11 hc11 HD10
            have HR11 := Lib.hid ((HD11.out.ot.deep (fine_nds HD11.out.ft) 0).sl (Nat.zero_le _))
            go_wp2_with fail
            refine (l11Drop_any _ sp2 _ w11 0 w11.heap.size HR11.out (Nat.le_refl _) (by have := HD11.out.ft.2; omega)).mono ?_
            rintro e w12 ⟨v12, ys, rfl, o12, ⟨hy1, hy2⟩, b12⟩
            have z11 := HD11.out.ch.size
            have HD12 := Lib.hid ((HD11.out.chg (Chg.of_below (S := fun b => b = g) b12) (HD11.out.rd.chg (Chg.of_below (S := fun _ => False) b12) fun _ _ h => h)).tree (o12.base z11) ⟨fun y hy => HD11.out.ft.1 y (hy1 y hy), by have := HD11.out.ft.2; omega⟩)
            obtain ⟨A12, c12, rfl⟩ := o12.form
            clear HD11 HR11 o12 hy1 hy2 b12
            go_wp2_with fail
            go_roundw
            case rel => exact ⟨j - 1, q11, _, _, _, _, _, by omega, by go_num, HD12.out, by omega⟩
            case measure => simp [intOf]; omega
          · have t5 : (m10 == 0) = false := beq_eq_false_iff_ne.2 m0
            clear m0
            go_wp2_with fail
            go_roundw
            case rel => exact ⟨j - 1, _, _, _, _, _, _, by omega, by go_num, HD10.out, by omega⟩
            case measure => simp [intOf]; omega
        | true =>
          have HD9 := Lib.hid (HD8.out.tree HT8.out.1 HT8.out.2)
          clear HD8 HT8
          go_wp2_with fail
          refine (pick_any _ _ _ _ _ _ 3 (HD9).out.rd (by omega)).mono ?_
          rintro e w10 ⟨m10, rfl, ⟨_, hm10⟩, rd10, hc10⟩
          have HD10 := Lib.hid ((HD9).out.chg hc10 rd10)
          clear hm10 rd10 hc10 HD9
          by_cases m0 : m10 = 0
          · have t5 : (m10 == 0) = true := beq_iff_eq.2 m0
            clear m0
            go_wp2_with fail
            refine (l91Path_any l g _ lo hi w10 HD10.out.rd (by omega)).mono ?_
            rintro e w11 ⟨sp2, q11, rfl, hs11, rd11, hq11, hc11⟩
            have HD11 := Lib.hid (HD10.out.chg hc11 rd11)
            clear rd11 hc11 HD10
            have HR11 := Lib.hid ((HD11.out.ot.deep (fine_nds HD11.out.ft) 0).sl (Nat.zero_le _))
            go_wp2_with fail
            refine (l11Drop_any _ sp2 _ w11 0 w11.heap.size HR11.out (Nat.le_refl _) (by have := HD11.out.ft.2; omega)).mono ?_
            rintro e w12 ⟨v12, ys, rfl, o12, ⟨hy1, hy2⟩, b12⟩
            have z11 := HD11.out.ch.size
            have HD12 := Lib.hid ((HD11.out.chg (Chg.of_below (S := fun b => b = g) b12) (HD11.out.rd.chg (Chg.of_below (S := fun _ => False) b12) fun _ _ h => h)).tree (o12.base z11) ⟨fun y hy => HD11.out.ft.1 y (hy1 y hy), by have := HD11.out.ft.2; omega⟩)
            obtain ⟨A12, c12, rfl⟩ := o12.form
            clear HD11 HR11 o12 hy1 hy2 b12
            go_wp2_with fail
            go_roundw
            case rel => exact ⟨j - 1, q11, _, _, _, _, _, by omega, by go_num, HD12.out, by omega⟩
            case measure => simp [intOf]; omega
          · have t5 : (m10 == 0) = false := beq_eq_false_iff_ne.2 m0
            clear m0
            go_wp2_with fail
            go_roundw
            case rel => exact ⟨j - 1, _, _, _, _, _, _, by omega, by go_num, HD10.out, by omega⟩
            case measure => simp [intOf]; omega
      | true =>
        have cy0 := ky.cell
        have ckg := HD.out.ks.cell
        have fkg := HD.out.ks.frozen
        have hk5 := ((HD.out.ks.set_ 0 (.slice A1 r.pk.length a1)).set_ 1 (.slice B1 r.sn.length b1)).set_ 2 (.slice C1 r.lg.length c1)
        simp only [List.setIfInBounds_toArray, List.set_cons_zero, List.set_cons_succ] at hk5
        have hc5 := chg_three w4 gs (.slice A1 r.pk.length a1) (.slice B1 r.sn.length b1) (.slice C1 r.lg.length c1)
        have hos5 : OSto (((w4.setCell ⟨gs, 0, none⟩ (.slice A1 r.pk.length a1)).setCell ⟨gs, 1, none⟩ (.slice B1 r.sn.length b1)).setCell ⟨gs, 2, none⟩ (.slice C1 r.lg.length c1)) L H r (.slice A1 r.pk.length a1) (.slice B1 r.sn.length b1) (.slice C1 r.lg.length c1) := ((oy.set HD.out.ks 0 _).set (HD.out.ks.set_ 0 _) 1 _).set ((HD.out.ks.set_ 0 _).set_ 1 _) 2 _
        have hd5 : DsSt w (((w4.setCell ⟨gs, 0, none⟩ (.slice A1 r.pk.length a1)).setCell ⟨gs, 1, none⟩ (.slice B1 r.sn.length b1)).setCell ⟨gs, 2, none⟩ (.slice C1 r.lg.length c1)) lo hi g l q4 gs (.slice A1 r.pk.length a1) (.slice B1 r.sn.length b1) (.slice C1 r.lg.length c1) (.slice T t.length d) r t :=
          ⟨blk_chg HD.out.k0 hc5 (by omega), hk5, by simp only [World.size_setCell]; exact OSto.wide hos5 (by omega) hH, HSV.out rfl, HD.out.ot.chg hc5 fun b hb e => by
              have := OwnF.deep HD.out.ot (fine_nds HD.out.ft) 0
              obtain ⟨ds, hds⟩ := this.blk hb
              have e' : b = gs := e
              subst e'
              exact absurd (blk_type HD.out.ks hds) (by decide), HD.out.ft, HD.out.rd.chg hc5 fun b hb e => by omega, HD.out.ch.trans hc5 fun i hi e => by have e' : i = gs := e; omega, hg1, hgw⟩
        have HD5 := Lib.hid hd5
        clear hk5 hc5 hos5 hd5 oy HD HSV
        go_wp2_with fail
        have HD := HD5
        clear HD5
        revert HD
        generalize ((w4.setCell ⟨gs, 0, none⟩ (.slice A1 r.pk.length a1)).setCell ⟨gs, 1, none⟩ (.slice B1 r.sn.length b1)).setCell ⟨gs, 2, none⟩ (.slice C1 r.lg.length c1) = w5
        intro HD
        clear cy0 ckg fkg ky
        refine (l91Path_any l g q4 lo hi w5 HD.out.rd (by omega)).mono ?_
        rintro e w6 ⟨sp, q6, rfl, hs9, rd6, hq6, hc6⟩
        have HD6 := Lib.hid (HD.out.chg hc6 rd6)
        clear rd6 hc6 HD
        go_wp2_with fail
        refine (l91Text_any l g q6 lo hi w6 HD6.out.rd (by omega)).mono ?_
        rintro e w7 ⟨tx, q7, rfl, htx, rd7, hq7, hc7⟩
        have HD7 := Lib.hid (HD6.out.chg hc7 rd7)
        clear rd7 hc7 HD6
        have r7 := ((HD7.out.ot.deep (fine_nds HD7.out.ft) 0).sl (Nat.zero_le _))
        have HR7 := Lib.hid r7
        clear r7
        go_wp2_with fail
        refine (TreePut_any t sp tx (by unfold maxLen; omega) (by unfold maxLen; omega) _ w7 0 w7.heap.size HR7.out (Nat.le_refl _) (by have := HD7.out.ft.2; omega)).mono ?_
        rintro e w8 ⟨v8, zs, put, rfl, o8, hfz, b8⟩
        have z7 := HD7.out.ch.size
        have HD8 := Lib.hid (HD7.out.chg (Chg.of_below (S := fun b => b = g) b8) (HD7.out.rd.chg (Chg.of_below (S := fun _ => False) b8) fun _ _ h => h))
        have HT8 := Lib.hid (And.intro (o8.base z7) hfz)
        obtain ⟨A8, c8, rfl⟩ := o8.form
        clear HD7 HR7 o8 hfz b8
        cases put with
        | false =>
          clear HT8
          go_wp2_with fail
          refine (pick_any _ _ _ _ _ _ 3 (HD8).out.rd (by omega)).mono ?_
          rintro e w10 ⟨m10, rfl, ⟨_, hm10⟩, rd10, hc10⟩
          have HD10 := Lib.hid ((HD8).out.chg hc10 rd10)
          clear hm10 rd10 hc10 HD8
          by_cases m0 : m10 = 0
          · have t5 : (m10 == 0) = true := beq_iff_eq.2 m0
            clear m0
            go_wp2_with fail
            refine (l91Path_any l g _ lo hi w10 HD10.out.rd (by omega)).mono ?_
            rintro e w11 ⟨sp2, q11, rfl, hs11, rd11, hq11, hc11⟩
            have HD11 := Lib.hid (HD10.out.chg hc11 rd11)
            clear rd11 hc11 HD10
            have HR11 := Lib.hid ((HD11.out.ot.deep (fine_nds HD11.out.ft) 0).sl (Nat.zero_le _))
            go_wp2_with fail
            refine (l11Drop_any _ sp2 _ w11 0 w11.heap.size HR11.out (Nat.le_refl _) (by have := HD11.out.ft.2; omega)).mono ?_
            rintro e w12 ⟨v12, ys, rfl, o12, ⟨hy1, hy2⟩, b12⟩
            have z11 := HD11.out.ch.size
            have HD12 := Lib.hid ((HD11.out.chg (Chg.of_below (S := fun b => b = g) b12) (HD11.out.rd.chg (Chg.of_below (S := fun _ => False) b12) fun _ _ h => h)).tree (o12.base z11) ⟨fun y hy => HD11.out.ft.1 y (hy1 y hy), by have := HD11.out.ft.2; omega⟩)
            obtain ⟨A12, c12, rfl⟩ := o12.form
            clear HD11 HR11 o12 hy1 hy2 b12
            go_wp2_with fail
            go_roundw
            case rel => exact ⟨j - 1, q11, _, _, _, _, _, by omega, by go_num, HD12.out, by omega⟩
            case measure => simp [intOf]; omega
          · have t5 : (m10 == 0) = false := beq_eq_false_iff_ne.2 m0
            clear m0
            go_wp2_with fail
            go_roundw
            case rel => exact ⟨j - 1, _, _, _, _, _, _, by omega, by go_num, HD10.out, by omega⟩
            case measure => simp [intOf]; omega
        | true =>
          have HD9 := Lib.hid (HD8.out.tree HT8.out.1 HT8.out.2)
          clear HD8 HT8
          go_wp2_with fail
          refine (pick_any _ _ _ _ _ _ 3 (HD9).out.rd (by omega)).mono ?_
          rintro e w10 ⟨m10, rfl, ⟨_, hm10⟩, rd10, hc10⟩
          have HD10 := Lib.hid ((HD9).out.chg hc10 rd10)
          clear hm10 rd10 hc10 HD9
          by_cases m0 : m10 = 0
          · have t5 : (m10 == 0) = true := beq_iff_eq.2 m0
            clear m0
            go_wp2_with fail
            refine (l91Path_any l g _ lo hi w10 HD10.out.rd (by omega)).mono ?_
            rintro e w11 ⟨sp2, q11, rfl, hs11, rd11, hq11, hc11⟩
            have HD11 := Lib.hid (HD10.out.chg hc11 rd11)
            clear rd11 hc11 HD10
            have HR11 := Lib.hid ((HD11.out.ot.deep (fine_nds HD11.out.ft) 0).sl (Nat.zero_le _))
            go_wp2_with fail
            refine (l11Drop_any _ sp2 _ w11 0 w11.heap.size HR11.out (Nat.le_refl _) (by have := HD11.out.ft.2; omega)).mono ?_
            rintro e w12 ⟨v12, ys, rfl, o12, ⟨hy1, hy2⟩, b12⟩
            have z11 := HD11.out.ch.size
            have HD12 := Lib.hid ((HD11.out.chg (Chg.of_below (S := fun b => b = g) b12) (HD11.out.rd.chg (Chg.of_below (S := fun _ => False) b12) fun _ _ h => h)).tree (o12.base z11) ⟨fun y hy => HD11.out.ft.1 y (hy1 y hy), by have := HD11.out.ft.2; omega⟩)
            obtain ⟨A12, c12, rfl⟩ := o12.form
            clear HD11 HR11 o12 hy1 hy2 b12
            go_wp2_with fail
            go_roundw
            case rel => exact ⟨j - 1, q11, _, _, _, _, _, by omega, by go_num, HD12.out, by omega⟩
            case measure => simp [intOf]; omega
          · have t5 : (m10 == 0) = false := beq_eq_false_iff_ne.2 m0
            clear m0
            go_wp2_with fail
            go_roundw
            case rel => exact ⟨j - 1, _, _, _, _, _, _, by omega, by go_num, HD10.out, by omega⟩
            case measure => simp [intOf]; omega
end Go.Proofs.Ytpdkgpbfmpekgaa




/- Draw of a lie; of a store with a lie. -/
namespace Go.Proofs.Ytpdkgpbfmpekgaa
open Go.RowKit

def lieBodies : List ByteArray := [⟨#[122, 122]⟩, ⟨#[98, 46]⟩, ⟨#[97, 98, 99, 46]⟩, ⟨#[104, 101, 108, 108, 111, 46, 46, 46]⟩, ⟨#[]⟩]
/-- A lie as it is drawn, of a store with so many heads. -/
structure LieP (L : LieV) (nc : Nat) : Prop where
  k : 0 ≤ L.k ∧ L.k ≤ 5
  n : 0 ≤ L.n ∧ L.n ≤ 20
  nl : L.k = 2 ∨ L.k = 4 → L.n ≤ nc
  m : 0 ≤ L.m ∧ L.m ≤ 3
  b : L.b ∈ lieBodies
def LiePost (w : World) (lo hi g : Nat) (l : List Int) (p nc : Nat) (e : Ending) (w' : World) : Prop :=
  ∃ L q, e = .returned (.agg (LieC L)) ∧ LieP L nc ∧ Rd w' lo hi g l q ∧ q ≤ p + 10 ∧ Chg (fun b => b = g) w w'
theorem four_chg (w : World) (g : Nat) (a b c d : Value) : Chg (fun x => x = g) w ((((w.setCell ⟨g, 0, none⟩ a).setCell ⟨g, 1, none⟩ b).setCell ⟨g, 2, none⟩ c).setCell ⟨g, 3, none⟩ d) := (chg_three w g a b c).setCell (S := fun x => x = g) (p := ⟨g, 3, none⟩) (.inl rfl) d
theorem seven_chg (w : World) (g k : Nat) (a b c d e f h : Value) : Chg (fun x => x = g ∨ x = k) w (((((((w.setCell ⟨g, 0, none⟩ a).setCell ⟨g, 1, none⟩ b).setCell ⟨g, 2, none⟩ c).setCell ⟨k, 0, none⟩ d).setCell ⟨k, 1, none⟩ e).setCell ⟨k, 2, none⟩ f).setCell ⟨k, 3, none⟩ h) := ((chg_three w g a b c).mono fun _ _ h => .inl h).trans (four_chg _ k d e f h) fun i _ e => .inr e
set_option maxRecDepth 8000 in
set_option maxHeartbeats 4000000 in
theorem l92Lie_any (l : List Int) (g p lo hi : Nat) (w : World) (hr : Rd w lo hi g l p) (hp : p ≤ 100000) (A B C : Option Addr) (na a nb b nc c : Nat) (hnc : nc ≤ 9) :
    Calls Try.prog 14 #[.pointer (some ⟨g, 0, none⟩), .agg #[.slice A na a, .slice B nb b, .slice C nc c]] w (LiePost w lo hi g l p nc) := by
  have hrg := hr.lt
  have hhg := hr.hi_
  go_enter Try.func14, Try.ntmps14
  go_wp2_with fail
  have hbw0 : Below w.heap.size w ((w.alloc (.cells #[.slice A na a, .slice B nb b, .slice C nc c] 27)).alloc (.cells #[.int .i64 0, .int .i64 0, .int .i64 0, .string ⟨#[]⟩] 29)) := below_alloc' (below_alloc _ _) _
  have k0 : Blk ((w.alloc (.cells #[.slice A na a, .slice B nb b, .slice C nc c] 27)).alloc (.cells #[.int .i64 0, .int .i64 0, .int .i64 0, .string ⟨#[]⟩] 29)) (w.heap.size) 27 #[.slice A na a, .slice B nb b, .slice C nc c] := by
    have hk := blk_alloc (Blk.new w 27 #[.slice A na a, .slice B nb b, .slice C nc c]) (.cells #[.int .i64 0, .int .i64 0, .int .i64 0, .string ⟨#[]⟩] 29)
    exact hk
  have k1 : Blk ((w.alloc (.cells #[.slice A na a, .slice B nb b, .slice C nc c] 27)).alloc (.cells #[.int .i64 0, .int .i64 0, .int .i64 0, .string ⟨#[]⟩] 29)) (w.heap.size + 1) 29 #[.int .i64 0, .int .i64 0, .int .i64 0, .string ⟨#[]⟩] := by
    have hk := Blk.new (w.alloc (.cells #[.slice A na a, .slice B nb b, .slice C nc c] 27)) 29 #[.int .i64 0, .int .i64 0, .int .i64 0, .string ⟨#[]⟩]
    simp only [World.size_alloc] at hk
    exact hk
  have hsw0 : w.heap.size + 2 ≤ ((w.alloc (.cells #[.slice A na a, .slice B nb b, .slice C nc c] 27)).alloc (.cells #[.int .i64 0, .int .i64 0, .int .i64 0, .string ⟨#[]⟩] 29)).heap.size := by simp only [World.size_alloc]; omega
  generalize ((w.alloc (.cells #[.slice A na a, .slice B nb b, .slice C nc c] 27)).alloc (.cells #[.int .i64 0, .int .i64 0, .int .i64 0, .string ⟨#[]⟩] 29)) = w0 at *
  have ck0 := k0.cell
  have fk0 := k0.frozen
  have ck1 := k1.cell
  have fk1 := k1.frozen
  have ch0 : Chg (fun b => b = g) w w0 := Chg.of_below hbw0
  have rd0 := hr.chg (Chg.of_below (S := fun _ => False) hbw0) fun _ _ h => h
  clear ck0 ck1 fk0 fk1 hbw0 hr
  refine (pick_any _ _ _ _ _ _ 5 rd0 (by omega)).mono ?_
  rintro e w1 ⟨m, rfl, ⟨_, hm⟩, rd1, hc1⟩
  have hmb := hm (by omega)
  have ch1 := ch0.trans hc1 fun i _ e => e
  replace k0 := blk_chg k0 hc1 (by omega)
  replace k1 := blk_chg k1 hc1 (by omega)
  clear hm hc1 ch0 rd0
  go_wp2_with fail
  refine (pick_any _ _ _ _ _ _ 5 rd1 (by omega)).mono ?_
  rintro e w2 ⟨m1, rfl, ⟨_, hm⟩, rd2, hc2⟩
  have hmb1 := hm (by omega)
  have ch2 := ch1.trans hc2 fun i _ e => e
  replace k0 := blk_chg k0 hc2 (by omega)
  replace k1 := blk_chg k1 hc2 (by omega)
  clear hm hc2 ch1 rd1
  go_wp2_with fail
  refine (pick_any _ _ _ _ _ _ 4 rd2 (by omega)).mono ?_
  rintro e w3 ⟨m2, rfl, ⟨_, hm⟩, rd3, hc3⟩
  have hmb2 := hm (by omega)
  have ch3 := ch2.trans hc3 fun i _ e => e
  replace k0 := blk_chg k0 hc3 (by omega)
  replace k1 := blk_chg k1 hc3 (by omega)
  clear hm hc3 ch2 rd2
  go_wp2_with fail
  have rl : RStrs (w3.alloc (.cells #[.string ⟨#[122, 122]⟩, .string ⟨#[98, 46]⟩, .string ⟨#[97, 98, 99, 46]⟩, .string ⟨#[104, 101, 108, 108, 111, 46, 46, 46]⟩, .string ⟨#[]⟩] 9)) w3.heap.size (w3.alloc (.cells #[.string ⟨#[122, 122]⟩, .string ⟨#[98, 46]⟩, .string ⟨#[97, 98, 99, 46]⟩, .string ⟨#[104, 101, 108, 108, 111, 46, 46, 46]⟩, .string ⟨#[]⟩] 9)).heap.size [⟨#[122, 122]⟩, ⟨#[98, 46]⟩, ⟨#[97, 98, 99, 46]⟩, ⟨#[104, 101, 108, 108, 111, 46, 46, 46]⟩, ⟨#[]⟩] [.slice (some ⟨w3.heap.size, 0, none⟩) 5 5] :=
    (OwnF.deep (F := FStr) (own_blk (F := FStr) (Blk.new w3 9 #[.string ⟨#[122, 122]⟩, .string ⟨#[98, 46]⟩, .string ⟨#[97, 98, 99, 46]⟩, .string ⟨#[104, 101, 108, 108, 111, 46, 46, 46]⟩, .string ⟨#[]⟩]) rfl (Nat.le_refl _) rfl (by simp [maxLen])) (short_good (by decide)) w3.heap.size).sl (Nat.le_refl _)
  have rd5 := (rd3).alloc (.cells #[.string ⟨#[122, 122]⟩, .string ⟨#[98, 46]⟩, .string ⟨#[97, 98, 99, 46]⟩, .string ⟨#[104, 101, 108, 108, 111, 46, 46, 46]⟩, .string ⟨#[]⟩] 9)
  have ch5 := (ch3).alloc (.cells #[.string ⟨#[122, 122]⟩, .string ⟨#[98, 46]⟩, .string ⟨#[97, 98, 99, 46]⟩, .string ⟨#[104, 101, 108, 108, 111, 46, 46, 46]⟩, .string ⟨#[]⟩] 9)
  have bl5 := below_alloc (w3) (.cells #[.string ⟨#[122, 122]⟩, .string ⟨#[98, 46]⟩, .string ⟨#[97, 98, 99, 46]⟩, .string ⟨#[104, 101, 108, 108, 111, 46, 46, 46]⟩, .string ⟨#[]⟩] 9)
  generalize (w3).alloc (.cells #[.string ⟨#[122, 122]⟩, .string ⟨#[98, 46]⟩, .string ⟨#[97, 98, 99, 46]⟩, .string ⟨#[104, 101, 108, 108, 111, 46, 46, 46]⟩, .string ⟨#[]⟩] 9) = w5 at *
  refine (of_any _ (by simp) _ _ _ _ _ _ _ _ w5 rd5 (by omega) rl).mono ?_
  rintro e v5 ⟨s5, hs5, rfl, rs5, hc5⟩
  replace ch5 := (ch5).trans hc5 fun i _ e => e
  clear rl
  replace k0 := blk_chg (blk_keep k0 bl5) hc5 (by omega)
  replace k1 := blk_chg (blk_keep k1 bl5) hc5 (by omega)
  have z5 := ch5.size
  clear bl5 hc5 rd5 rd3 ch3
  obtain ⟨gl, hgl⟩ : ∃ gl, gl = v5.heap.size := ⟨_, rfl⟩
  have ax := below_alloc v5 (.cells #[.int .i64 m, .int .i64 (1 + m1), .int .i64 m2, .string s5] 29)
  have kl := Blk.new v5 29 #[.int .i64 m, .int .i64 (1 + m1), .int .i64 m2, .string s5]
  have chl := ch5.alloc (.cells #[.int .i64 m, .int .i64 (1 + m1), .int .i64 m2, .string s5] 29)
  have rdl := rs5.alloc (.cells #[.int .i64 m, .int .i64 (1 + m1), .int .i64 m2, .string s5] 29)
  have kl0 := blk_keep k0 ax
  have kl1 := blk_keep k1 ax
  have ka0 := kl0.cell
  have hk1l : w.heap.size + 1 < gl := by rw [hgl]; exact k1.lt
  have H := Lib.hid (And.intro kl (And.intro chl (And.intro rdl (And.intro kl0 kl1))))
  clear kl chl rdl kl0 kl1 ax k0 k1 rs5 ch5
  have hg2 := Nat.le_of_lt_succ (Nat.lt_succ_of_lt hk1l)
  by_cases c2 : m = 2
  · subst c2
    have HGL := Lib.hid hgl
    clear hgl
    go_wp2_with fail
    rw [← HGL.out]
    obtain ⟨kl, chl, rdl, kl0, kl1⟩ := H.out
    rw [← HGL.out] at kl
    clear H ka0 HGL
    revert kl1; revert kl; revert rdl; revert chl; clear kl0
    generalize v5.alloc (.cells #[.int .i64 2, .int .i64 (1 + m1), .int .i64 m2, .string s5] 29) = w7
    intro chl rdl kl kl1
    refine (pick_any _ _ _ _ _ _ _ rdl (by omega)).mono ?_
    rintro e w8 ⟨m3, rfl, ⟨_, hm⟩, rd8, hc8⟩
    have hmb3 := hm (by omega)
    have ch8 := chl.trans hc8 fun i _ e => e
    replace kl := blk_chg kl hc8 (by omega)
    replace kl1 := blk_chg kl1 hc8 (by omega)
    clear hm hc8 chl rdl
    have cl := kl.cell
    have fl := kl.frozen
    have kl9 := kl.set_ 1 (.int .i64 m3)
    simp only [List.setIfInBounds_toArray, List.set_cons_zero, List.set_cons_succ] at kl9
    have z8 := ch8.size
    have k19 := blk_ne kl1 (p := ⟨gl, 1, none⟩) (.int .i64 m3) (by dsimp only; omega)
    have cg := (Chg.refl (fun x => x = gl) w8).setCell (S := fun x => x = gl) (p := ⟨gl, 1, none⟩) (.inl rfl) (.int .i64 m3)
    have ch9' := ch8.trans cg fun i hi e => by have e' : i = gl := e; omega
    have rd9' := rd8.chg cg fun b hb e => by omega
    have H9 := Lib.hid (And.intro ch9' (And.intro rd9' (And.intro kl9 k19)))
    clear cg ch9' rd9' kl9 k19 ch8 rd8 kl1
    go_wp2_with fail
    obtain ⟨chl, rdl, kl9, kl1⟩ := H9.out
    clear H9 cl fl kl
    revert kl1; revert kl9; revert rdl; revert chl
    generalize w8.setCell ⟨gl, 1, none⟩ (.int .i64 m3) = w8'
    intro chl rdl kl kl1
    have hnn : ((2 : Int) = 2 ∨ (2 : Int) = 4) → m3 ≤ (nc : Int) := fun _ => by omega
    have hn20 : 0 ≤ m3 ∧ m3 ≤ 20 := by omega
    have HNN := Lib.hid hnn
    clear hnn
    refine (pick_any _ _ _ _ _ _ 24 rdl (by omega)).mono ?_
    rintro e w9 ⟨m9, rfl, ⟨_, hm9⟩, rd9, hc9⟩
    have ch9 := (chl).trans hc9 fun i _ e => e
    have km9 := blk_chg kl hc9 (by omega)
    have k19 := blk_chg kl1 hc9 (by omega)
    have z9 := ch9.size
    clear hm9 hc9
    by_cases m0 : m9 = 0
    · have t9 : (m9 == 0) = true := beq_iff_eq.2 m0
      clear m0
      have km10 := km9.set_ 0 (.int .i64 5)
      simp only [List.setIfInBounds_toArray, List.set_cons_zero, List.set_cons_succ] at km10
      have k110 := blk_ne k19 (p := ⟨gl, 0, none⟩) (.int .i64 5) (by dsimp only; omega)
      have ch10 := ch9.trans (((Chg.refl (fun x => x = gl) w9).setCell (S := fun x => x = gl) (p := ⟨gl, 0, none⟩) (.inl rfl) (.int .i64 5))) fun i hi e => by have e' : i = gl := e; omega
      have rd10 := rd9.chg (((Chg.refl (fun x => x = gl) w9).setCell (S := fun x => x = gl) (p := ⟨gl, 0, none⟩) (.inl rfl) (.int .i64 5))) fun b hb e => by omega
      have cm9 := km9.cell
      have fm9 := km9.frozen
      have cm10 := km10.cell
      have fk10 := k110.frozen
      have ck10 := k110.cell
      have H := Lib.hid (And.intro km10 (And.intro k110 (And.intro ch10 rd10)))
      clear km10 k110 ch10 rd10 km9 k19
      go_wp2_with fail
      obtain ⟨km10, k110, ch10, rd10⟩ := H.out
      have k4 := (((k110.set_ 0 (.int .i64 5)).set_ 1 (.int .i64 (m3))).set_ 2 (.int .i64 m2)).set_ 3 (.string s5)
      simp only [List.setIfInBounds_toArray, List.set_cons_zero, List.set_cons_succ] at k4
      have ck4 := k4.cell
      refine bodyPost_ret (v := .agg #[.int .i64 5, .int .i64 (m3), .int .i64 m2, .string s5]) (by simp [results, Try.results14, go_sem, ck4]) rfl ⟨⟨5, m3, m2, s5⟩, _, rfl, ⟨⟨show (0 : Int) ≤ 5 by omega, show (5 : Int) ≤ 5 by omega⟩, hn20, (fun h => by have h : (5 : Int) = 2 ∨ (5 : Int) = 4 := h; omega), by show 0 ≤ m2 ∧ m2 ≤ 3; omega, hs5⟩, rd10.chg (four_chg _ _ _ _ _ _) fun b hb e => by omega, by omega, ch10.trans (four_chg _ _ _ _ _ _) fun i hi e => by omega⟩
    · have t9 : (m9 == 0) = false := beq_eq_false_iff_ne.2 m0
      clear m0
      have cm9 := km9.cell
      have fk9 := k19.frozen
      have ck9 := k19.cell
      go_wp2_with fail
      have k4 := (((k19.set_ 0 (.int .i64 (2))).set_ 1 (.int .i64 (m3))).set_ 2 (.int .i64 m2)).set_ 3 (.string s5)
      simp only [List.setIfInBounds_toArray, List.set_cons_zero, List.set_cons_succ] at k4
      have ck4 := k4.cell
      refine bodyPost_ret (v := .agg #[.int .i64 (2), .int .i64 (m3), .int .i64 m2, .string s5]) (by simp [results, Try.results14, go_sem, ck4]) rfl ⟨⟨2, m3, m2, s5⟩, _, rfl, ⟨by show 0 ≤ (2 : Int) ∧ (2 : Int) ≤ 5; omega, hn20, (fun h => HNN.out (by first | exact h | simp)), by show 0 ≤ m2 ∧ m2 ≤ 3; omega, hs5⟩, rd9.chg (four_chg _ _ _ _ _ _) fun b hb e => by omega, by omega, ch9.trans (four_chg _ _ _ _ _ _) fun i hi e => by omega⟩
  · have t1 : (m == 2) = false := beq_eq_false_iff_ne.2 c2
    by_cases c4 : m = 4
    · subst c4
      clear c2 t1
      have HGL := Lib.hid hgl
      clear hgl
      go_wp2_with fail
      rw [← HGL.out]
      obtain ⟨kl, chl, rdl, kl0, kl1⟩ := H.out
      rw [← HGL.out] at kl
      clear H ka0 HGL
      revert kl1; revert kl; revert rdl; revert chl; clear kl0
      generalize v5.alloc (.cells #[.int .i64 4, .int .i64 (1 + m1), .int .i64 m2, .string s5] 29) = w7
      intro chl rdl kl kl1
      refine (pick_any _ _ _ _ _ _ _ rdl (by omega)).mono ?_
      rintro e w8 ⟨m3, rfl, ⟨_, hm⟩, rd8, hc8⟩
      have hmb3 := hm (by omega)
      have ch8 := chl.trans hc8 fun i _ e => e
      replace kl := blk_chg kl hc8 (by omega)
      replace kl1 := blk_chg kl1 hc8 (by omega)
      clear hm hc8 chl rdl
      have cl := kl.cell
      have fl := kl.frozen
      have kl9 := kl.set_ 1 (.int .i64 m3)
      simp only [List.setIfInBounds_toArray, List.set_cons_zero, List.set_cons_succ] at kl9
      have z8 := ch8.size
      have k19 := blk_ne kl1 (p := ⟨gl, 1, none⟩) (.int .i64 m3) (by dsimp only; omega)
      have cg := (Chg.refl (fun x => x = gl) w8).setCell (S := fun x => x = gl) (p := ⟨gl, 1, none⟩) (.inl rfl) (.int .i64 m3)
      have ch9' := ch8.trans cg fun i hi e => by have e' : i = gl := e; omega
      have rd9' := rd8.chg cg fun b hb e => by omega
      have H9 := Lib.hid (And.intro ch9' (And.intro rd9' (And.intro kl9 k19)))
      clear cg ch9' rd9' kl9 k19 ch8 rd8 kl1
      go_wp2_with fail
      obtain ⟨chl, rdl, kl9, kl1⟩ := H9.out
      clear H9 cl fl kl
      revert kl1; revert kl9; revert rdl; revert chl
      generalize w8.setCell ⟨gl, 1, none⟩ (.int .i64 m3) = w8'
      intro chl rdl kl kl1
      have hnn : ((4 : Int) = 2 ∨ (4 : Int) = 4) → m3 ≤ (nc : Int) := fun _ => by omega
      have hn20 : 0 ≤ m3 ∧ m3 ≤ 20 := by omega
      have HNN := Lib.hid hnn
      clear hnn
      refine (pick_any _ _ _ _ _ _ 24 rdl (by omega)).mono ?_
      rintro e w9 ⟨m9, rfl, ⟨_, hm9⟩, rd9, hc9⟩
      have ch9 := (chl).trans hc9 fun i _ e => e
      have km9 := blk_chg kl hc9 (by omega)
      have k19 := blk_chg kl1 hc9 (by omega)
      have z9 := ch9.size
      clear hm9 hc9
      by_cases m0 : m9 = 0
      · have t9 : (m9 == 0) = true := beq_iff_eq.2 m0
        clear m0
        have km10 := km9.set_ 0 (.int .i64 5)
        simp only [List.setIfInBounds_toArray, List.set_cons_zero, List.set_cons_succ] at km10
        have k110 := blk_ne k19 (p := ⟨gl, 0, none⟩) (.int .i64 5) (by dsimp only; omega)
        have ch10 := ch9.trans (((Chg.refl (fun x => x = gl) w9).setCell (S := fun x => x = gl) (p := ⟨gl, 0, none⟩) (.inl rfl) (.int .i64 5))) fun i hi e => by have e' : i = gl := e; omega
        have rd10 := rd9.chg (((Chg.refl (fun x => x = gl) w9).setCell (S := fun x => x = gl) (p := ⟨gl, 0, none⟩) (.inl rfl) (.int .i64 5))) fun b hb e => by omega
        have cm9 := km9.cell
        have fm9 := km9.frozen
        have cm10 := km10.cell
        have fk10 := k110.frozen
        have ck10 := k110.cell
        have H := Lib.hid (And.intro km10 (And.intro k110 (And.intro ch10 rd10)))
        clear km10 k110 ch10 rd10 km9 k19
        go_wp2_with fail
        obtain ⟨km10, k110, ch10, rd10⟩ := H.out
        have k4 := (((k110.set_ 0 (.int .i64 5)).set_ 1 (.int .i64 (m3))).set_ 2 (.int .i64 m2)).set_ 3 (.string s5)
        simp only [List.setIfInBounds_toArray, List.set_cons_zero, List.set_cons_succ] at k4
        have ck4 := k4.cell
        refine bodyPost_ret (v := .agg #[.int .i64 5, .int .i64 (m3), .int .i64 m2, .string s5]) (by simp [results, Try.results14, go_sem, ck4]) rfl ⟨⟨5, m3, m2, s5⟩, _, rfl, ⟨⟨show (0 : Int) ≤ 5 by omega, show (5 : Int) ≤ 5 by omega⟩, hn20, (fun h => by have h : (5 : Int) = 2 ∨ (5 : Int) = 4 := h; omega), by show 0 ≤ m2 ∧ m2 ≤ 3; omega, hs5⟩, rd10.chg (four_chg _ _ _ _ _ _) fun b hb e => by omega, by omega, ch10.trans (four_chg _ _ _ _ _ _) fun i hi e => by omega⟩
      · have t9 : (m9 == 0) = false := beq_eq_false_iff_ne.2 m0
        clear m0
        have cm9 := km9.cell
        have fk9 := k19.frozen
        have ck9 := k19.cell
        go_wp2_with fail
        have k4 := (((k19.set_ 0 (.int .i64 (4))).set_ 1 (.int .i64 (m3))).set_ 2 (.int .i64 m2)).set_ 3 (.string s5)
        simp only [List.setIfInBounds_toArray, List.set_cons_zero, List.set_cons_succ] at k4
        have ck4 := k4.cell
        refine bodyPost_ret (v := .agg #[.int .i64 (4), .int .i64 (m3), .int .i64 m2, .string s5]) (by simp [results, Try.results14, go_sem, ck4]) rfl ⟨⟨4, m3, m2, s5⟩, _, rfl, ⟨by show 0 ≤ (4 : Int) ∧ (4 : Int) ≤ 5; omega, hn20, (fun h => HNN.out (by first | exact h | simp)), by show 0 ≤ m2 ∧ m2 ≤ 3; omega, hs5⟩, rd9.chg (four_chg _ _ _ _ _ _) fun b hb e => by omega, by omega, ch9.trans (four_chg _ _ _ _ _ _) fun i hi e => by omega⟩
    · have t2 : (m == 4) = false := beq_eq_false_iff_ne.2 c4
      have hnl : ¬ (m = 2 ∨ m = 4) := by omega
      have HNL := Lib.hid hnl
      have HGL := Lib.hid hgl
      clear c2 c4 hnl hgl
      go_wp2_with fail
      rw [← HGL.out]
      obtain ⟨kl, chl, rdl, kl0, kl1⟩ := H.out
      rw [← HGL.out] at kl
      clear H ka0 t1 t2 HGL
      revert kl1; revert kl; revert rdl; revert chl; clear kl0
      generalize v5.alloc (.cells #[.int .i64 m, .int .i64 (1 + m1), .int .i64 m2, .string s5] 29) = w8
      intro chl rdl kl kl1
      have hnn : (m = 2 ∨ m = 4) → 1 + m1 ≤ (nc : Int) := fun h => absurd h HNL.out
      have hn20 : 0 ≤ 1 + m1 ∧ 1 + m1 ≤ 20 := by omega
      have HNN := Lib.hid hnn
      clear hnn
      refine (pick_any _ _ _ _ _ _ 24 rdl (by omega)).mono ?_
      rintro e w9 ⟨m9, rfl, ⟨_, hm9⟩, rd9, hc9⟩
      have ch9 := (chl).trans hc9 fun i _ e => e
      have km9 := blk_chg kl hc9 (by omega)
      have k19 := blk_chg kl1 hc9 (by omega)
      have z9 := ch9.size
      clear hm9 hc9
      by_cases m0 : m9 = 0
      · have t9 : (m9 == 0) = true := beq_iff_eq.2 m0
        clear m0
        have km10 := km9.set_ 0 (.int .i64 5)
        simp only [List.setIfInBounds_toArray, List.set_cons_zero, List.set_cons_succ] at km10
        have k110 := blk_ne k19 (p := ⟨gl, 0, none⟩) (.int .i64 5) (by dsimp only; omega)
        have ch10 := ch9.trans (((Chg.refl (fun x => x = gl) w9).setCell (S := fun x => x = gl) (p := ⟨gl, 0, none⟩) (.inl rfl) (.int .i64 5))) fun i hi e => by have e' : i = gl := e; omega
        have rd10 := rd9.chg (((Chg.refl (fun x => x = gl) w9).setCell (S := fun x => x = gl) (p := ⟨gl, 0, none⟩) (.inl rfl) (.int .i64 5))) fun b hb e => by omega
        have cm9 := km9.cell
        have fm9 := km9.frozen
        have cm10 := km10.cell
        have fk10 := k110.frozen
        have ck10 := k110.cell
        have H := Lib.hid (And.intro km10 (And.intro k110 (And.intro ch10 rd10)))
        clear km10 k110 ch10 rd10 km9 k19
        go_wp2_with fail
        obtain ⟨km10, k110, ch10, rd10⟩ := H.out
        have k4 := (((k110.set_ 0 (.int .i64 5)).set_ 1 (.int .i64 (1 + m1))).set_ 2 (.int .i64 m2)).set_ 3 (.string s5)
        simp only [List.setIfInBounds_toArray, List.set_cons_zero, List.set_cons_succ] at k4
        have ck4 := k4.cell
        refine bodyPost_ret (v := .agg #[.int .i64 5, .int .i64 (1 + m1), .int .i64 m2, .string s5]) (by simp [results, Try.results14, go_sem, ck4]) rfl ⟨⟨5, 1 + m1, m2, s5⟩, _, rfl, ⟨⟨show (0 : Int) ≤ 5 by omega, show (5 : Int) ≤ 5 by omega⟩, hn20, (fun h => by have h : (5 : Int) = 2 ∨ (5 : Int) = 4 := h; omega), by show 0 ≤ m2 ∧ m2 ≤ 3; omega, hs5⟩, rd10.chg (four_chg _ _ _ _ _ _) fun b hb e => by omega, by omega, ch10.trans (four_chg _ _ _ _ _ _) fun i hi e => by omega⟩
      · have t9 : (m9 == 0) = false := beq_eq_false_iff_ne.2 m0
        clear m0
        have cm9 := km9.cell
        have fk9 := k19.frozen
        have ck9 := k19.cell
        go_wp2_with fail
        have k4 := (((k19.set_ 0 (.int .i64 (m))).set_ 1 (.int .i64 (1 + m1))).set_ 2 (.int .i64 m2)).set_ 3 (.string s5)
        simp only [List.setIfInBounds_toArray, List.set_cons_zero, List.set_cons_succ] at k4
        have ck4 := k4.cell
        refine bodyPost_ret (v := .agg #[.int .i64 (m), .int .i64 (1 + m1), .int .i64 m2, .string s5]) (by simp [results, Try.results14, go_sem, ck4]) rfl ⟨⟨m, 1 + m1, m2, s5⟩, _, rfl, ⟨by show 0 ≤ (m : Int) ∧ (m : Int) ≤ 5; omega, hn20, (fun h => HNN.out (by first | exact h | simp)), by show 0 ≤ m2 ∧ m2 ≤ 3; omega, hs5⟩, rd9.chg (four_chg _ _ _ _ _ _) fun b hb e => by omega, by omega, ch9.trans (four_chg _ _ _ _ _ _) fun i hi e => by omega⟩
/-- A store as saves made it, and a lie about it. -/
def DlsPost (w : World) (e : Ending) (w' : World) : Prop :=
  ∃ va vb vc s L, e = .returned (.tuple #[.agg #[va, vb, vc], .agg (LieC L)]) ∧ OSto w' w.heap.size w'.heap.size s va vb vc ∧ Saved s ∧ LieP L s.lg.length ∧ Below w.heap.size w w'
set_option maxRecDepth 8000 in
set_option maxHeartbeats 4000000 in
theorem drawLieShow_any (A : Option Addr) (n c : Nat) (l : List Int) (w : World) (h : RSl RByte 1 w 0 w.heap.size l [.slice A n c]) :
    Calls Try.prog 5 #[.slice A n c] w (DlsPost w) := by
  go_enter Try.func5, Try.ntmps5
  go_wp2_with fail
  have hbw0 : Below w.heap.size w ((w.alloc (.cells #[.slice none 0 0, .slice none 0 0, .slice none 0 0] 27)).alloc (.cells #[.int .i64 0, .int .i64 0, .int .i64 0, .string ⟨#[]⟩] 29)) := below_alloc' (below_alloc _ _) _
  have k0 : Blk ((w.alloc (.cells #[.slice none 0 0, .slice none 0 0, .slice none 0 0] 27)).alloc (.cells #[.int .i64 0, .int .i64 0, .int .i64 0, .string ⟨#[]⟩] 29)) (w.heap.size) 27 #[.slice none 0 0, .slice none 0 0, .slice none 0 0] := by
    have hk := blk_alloc (Blk.new w 27 #[.slice none 0 0, .slice none 0 0, .slice none 0 0]) (.cells #[.int .i64 0, .int .i64 0, .int .i64 0, .string ⟨#[]⟩] 29)
    exact hk
  have k1 : Blk ((w.alloc (.cells #[.slice none 0 0, .slice none 0 0, .slice none 0 0] 27)).alloc (.cells #[.int .i64 0, .int .i64 0, .int .i64 0, .string ⟨#[]⟩] 29)) (w.heap.size + 1) 29 #[.int .i64 0, .int .i64 0, .int .i64 0, .string ⟨#[]⟩] := by
    have hk := Blk.new (w.alloc (.cells #[.slice none 0 0, .slice none 0 0, .slice none 0 0] 27)) 29 #[.int .i64 0, .int .i64 0, .int .i64 0, .string ⟨#[]⟩]
    simp only [World.size_alloc] at hk
    exact hk
  have hsw0 : w.heap.size + 2 ≤ ((w.alloc (.cells #[.slice none 0 0, .slice none 0 0, .slice none 0 0] 27)).alloc (.cells #[.int .i64 0, .int .i64 0, .int .i64 0, .string ⟨#[]⟩] 29)).heap.size := by simp only [World.size_alloc]; omega
  generalize ((w.alloc (.cells #[.slice none 0 0, .slice none 0 0, .slice none 0 0] 27)).alloc (.cells #[.int .i64 0, .int .i64 0, .int .i64 0, .string ⟨#[]⟩] 29)) = w0 at *
  have ck0 := k0.cell
  have fk0 := k0.frozen
  have ck1 := k1.cell
  have fk1 := k1.frozen
  refine (open_any l A n c w0 0 w.heap.size (sl_keep RByte.loc h hbw0 (Nat.le_refl _)) hbw0.size).mono ?_
  rintro e w1 ⟨g, rfl, hr, hg, hb1⟩
  have hgl := hr.lt
  replace k0 := blk_keep k0 hb1
  replace ck0 := k0.cell
  replace fk0 := k0.frozen
  replace k1 := blk_keep k1 hb1
  replace ck1 := k1.cell
  replace fk1 := k1.frozen
  replace hbw0 := below_below hbw0 hb1
  go_wp2_with fail
  refine (l92Store_any _ g 0 _ _ w1 hr (by omega)).mono ?_
  rintro e w2 ⟨va, vb, vc, s, q, rfl, os, hsv, rd2, hq, ch2⟩
  obtain ⟨⟨A1, a1, rfl⟩, ⟨B1, b1, rfl⟩, C1, c1, rfl⟩ := os.form
  have hk0 := blk_chg k0 ch2 (by omega)
  have hk1 := blk_chg k1 ch2 (by omega)
  have z2 := ch2.size
  have z0 := hb1.size
  have hb2 : Below w.heap.size w w2 := hbw0.trans (ch2.below hbw0.size fun i hi e => by have e' : i = g := e; omega)
  have HSV := Lib.hid hsv
  have hll := hsv.wf.ll
  clear hr k0 k1 ck0 ck1 fk0 fk1 hbw0 hb1 ch2 hsv
  have ax := below_alloc w2 (.cells #[.slice A1 s.pk.length a1, .slice B1 s.sn.length b1, .slice C1 s.lg.length c1] 27)
  have km := (Blk.new w2 27 #[.slice A1 s.pk.length a1, .slice B1 s.sn.length b1, .slice C1 s.lg.length c1]).cell
  go_wp2_with fail
  clear ax km
  have hbw3 : Below w2.heap.size w2 (w2.alloc (.cells #[.slice A1 s.pk.length a1, .slice B1 s.sn.length b1, .slice C1 s.lg.length c1] 27)) := below_alloc _ _
  have m0 : Blk (w2.alloc (.cells #[.slice A1 s.pk.length a1, .slice B1 s.sn.length b1, .slice C1 s.lg.length c1] 27)) (w2.heap.size) 27 #[.slice A1 s.pk.length a1, .slice B1 s.sn.length b1, .slice C1 s.lg.length c1] := by
    have hk := Blk.new w2 27 #[.slice A1 s.pk.length a1, .slice B1 s.sn.length b1, .slice C1 s.lg.length c1]
    exact hk
  have hsw3 : w2.heap.size + 1 ≤ (w2.alloc (.cells #[.slice A1 s.pk.length a1, .slice B1 s.sn.length b1, .slice C1 s.lg.length c1] 27)).heap.size := by simp only [World.size_alloc]; omega
  generalize (w2.alloc (.cells #[.slice A1 s.pk.length a1, .slice B1 s.sn.length b1, .slice C1 s.lg.length c1] 27)) = w3 at *
  have cm0 := m0.cell
  have fm0 := m0.frozen
  replace hk0 := blk_keep hk0 hbw3
  replace chk0 := hk0.cell
  replace fhk0 := hk0.frozen
  replace hk1 := blk_keep hk1 hbw3
  replace chk1 := hk1.cell
  replace fhk1 := hk1.frozen
  have os3 := os.below hbw3 (Nat.le_refl _)
  have rd3 := rd2.chg (Chg.of_below (S := fun _ => False) hbw3) fun _ _ h => h
  have hb3 := below_below hb2 hbw3
  have pe0 := paste_cell (s := 3) (ty := 66) (S := fun b => b = g) (pre := []) (cm0 0) (by dsimp only; omega)
  have pe1 := paste_cell (s := 3) (ty := 66) (S := fun b => b = g) (pre := []) (cm0 1) (by dsimp only; omega)
  have pe2 := paste_cell (s := 3) (ty := 66) (S := fun b => b = g) (pre := []) (cm0 2) (by dsimp only; omega)
  refine region_efT 3 66 (fun b => b = g) [] 4 [0, 1, 2] [3] (by kernel_rfl) (by kernel_rfl) (by kernel_rfl) ?_
  simp only [pick, List.map, List.getD_cons_zero, List.getD_cons_succ]
  repeat (go_big_quiet_step (fail))
  refine wpQuiet_nil ?_
  apply Exists.intro
  apply ef_eff (fun v x => x.done = true ∧ ∃ L, v = .agg (LieC L) ∧ LieP L s.lg.length)
  · rfl
  · rfl
  · exact fun j hj => (by cases hj)
  · exact fun v x y h hle => ⟨(hle.from_ h.1).1, h.2⟩
  · intro x _ hdn Qx hQ'
    have hQ := Lib.hid hQ'; clear hQ'
    have hbx := x.till hdn
    go_wp2_with fail
    refine (l92Lie_any _ g q _ _ x.to (rd3.chg (Chg.of_below (S := fun _ => False) hbx) fun _ _ h => h) (by omega) A1 B1 C1 _ a1 _ b1 _ c1 hll).mono ?_
    rintro e wy ⟨L, q2, rfl, hL, _, _, hcy⟩
    go_wp2_with fail
    exact hQ.out _ _ (hcy.mono fun b hb e => .inl e) ⟨rfl, L, rfl, hL⟩
  intro u13
  simp only [Act.put, List.setIfInBounds_toArray, List.set_cons_zero, List.set_cons_succ]
  refine ef_end fun x hF => ?_
  simp only [allF] at hF
  obtain ⟨⟨hdn, L, rfl, hL⟩, -⟩ := hF
  have hcx : Chg (fun b => b = g) w3 x.to := x.ok.mono fun b _ h => h.2
  have os4 := os3.chg hcx fun b h1 h2 => ⟨by omega, by omega⟩
  have kk0 := blk_chg hk0 hcx (by omega)
  have kk1 := blk_chg hk1 hcx (by omega)
  have hb4 : Below w.heap.size w x.to := hb3.trans (hcx.below hb3.size fun i hi e => by have e' : i = g := e; omega)
  have fk0 := kk0.frozen
  have fk1 := kk1.frozen
  have ck0 := kk0.cell
  have ck1 := kk1.cell
  have zx := hcx.size
  simp only [List.drop]
  have H := Lib.hid (And.intro os4 (And.intro kk0 (And.intro kk1 (And.intro hb4 hL))))
  clear os4 kk0 kk1 hb4 hL hcx hdn os os3 rd3 rd2 hk0 hk1 hb2 hb3 pe0 pe1 pe2 m0 cm0 fm0 hbw3
  revert H ck0 ck1 fk0 fk1 zx
  generalize x.to = w4
  intro fk0 fk1 ck0 ck1 zx H
  clear x
  go_wp2_with fail
  obtain ⟨os4, kk0, kk1, hb4, hL⟩ := H.out
  have zk := kk1.lt
  have kk1' := blk_ne (blk_ne (blk_ne kk1 (p := ⟨w.heap.size, 0, none⟩) (.slice A1 s.pk.length a1) (by dsimp only; omega)) (p := ⟨w.heap.size, 1, none⟩) (.slice B1 s.sn.length b1) (by dsimp only; omega)) (p := ⟨w.heap.size, 2, none⟩) (.slice C1 s.lg.length c1) (by dsimp only; omega)
  have k4 := (((kk1'.set_ 0 (.int .i64 L.k)).set_ 1 (.int .i64 L.n)).set_ 2 (.int .i64 L.m)).set_ 3 (.string L.b)
  simp only [List.setIfInBounds_toArray, List.set_cons_zero, List.set_cons_succ] at k4
  have k0' := ((kk0.set_ 0 (.slice A1 s.pk.length a1)).set_ 1 (.slice B1 s.sn.length b1)).set_ 2 (.slice C1 s.lg.length c1)
  have k05 := blk_ne (blk_ne (blk_ne (blk_ne k0' (p := ⟨w.heap.size + 1, 0, none⟩) (.int .i64 L.k) (by dsimp only; omega)) (p := ⟨w.heap.size + 1, 1, none⟩) (.int .i64 L.n) (by dsimp only; omega)) (p := ⟨w.heap.size + 1, 2, none⟩) (.int .i64 L.m) (by dsimp only; omega)) (p := ⟨w.heap.size + 1, 3, none⟩) (.string L.b) (by dsimp only; omega)
  simp only [List.setIfInBounds_toArray, List.set_cons_zero, List.set_cons_succ] at k05
  have c4 := k4.cell
  have c5 := k05.cell
  have h7 := seven_chg w4 w.heap.size (w.heap.size + 1) (.slice A1 s.pk.length a1) (.slice B1 s.sn.length b1) (.slice C1 s.lg.length c1) (.int .i64 L.k) (.int .i64 L.n) (.int .i64 L.m) (.string L.b)
  have z7 := Nat.le_trans (show w2.heap.size ≤ w4.heap.size by omega) h7.size
  refine bodyPost_ret (v := .tuple #[.agg #[.slice A1 s.pk.length a1, .slice B1 s.sn.length b1, .slice C1 s.lg.length c1], .agg (LieC L)]) (by simp [results, Try.results5, go_sem, c4, c5, LieC]) rfl ⟨_, _, _, s, L, rfl, (os4.chg h7 fun b h1 h2 => ⟨by omega, by omega⟩).wide (by omega) z7, HSV.out, hL, hb4.trans (h7.below hb4.size fun i hi e => by have e' : i = w.heap.size ∨ i = w.heap.size + 1 := e; omega)⟩
end Go.Proofs.Ytpdkgpbfmpekgaa




/- What lies do to stores: plain. -/
namespace Go.Proofs.Ytpdkgpbfmpekgaa
open Go.RowKit

/-- Small stores. -/
structure SmS (s : Sto) : Prop where
  pl : s.pk.length ≤ 20
  pn : ∀ p ∈ s.pk, p.its.length ≤ 4 ∧ ∀ x ∈ p.its, x.b.size ≤ 8
  sl : s.sn.length ≤ 9
  sn : ∀ x ∈ s.sn, x.all.length ≤ 6 ∧ ∀ y ∈ x.all, y.p.size ≤ 3 ∧ y.ns.length ≤ 40
  ll : s.lg.length ≤ 9
theorem WfS.sm {s : Sto} (h : WfS s) : SmS s := ⟨h.pl, fun p hp => (h.pn p hp).2, by have := h.sl; have := h.ll; omega, fun x hx => (h.sn x hx).2, h.ll⟩
theorem SmS.bulk {s : Sto} (h : SmS s) : bSto s ≤ 10000 := by
  have h1 : bulkS bPk s.pk ≤ s.pk.length * (36 + 1) := bulkS_le fun p hp => by
    have h2 : bulkS bIt p.its ≤ p.its.length * (8 + 1) := bulkS_le fun x hx => (h.pn p hp).2 x hx
    have := (h.pn p hp).1
    show bulkS bIt p.its ≤ 36
    omega
  have h3 : bulkS bSn s.sn ≤ s.sn.length * (264 + 1) := bulkS_le fun x hx => by
    have h2 : bulkS bLs x.all ≤ x.all.length * (43 + 1) := bulkS_le fun y hy => by
      have := (h.sn x hx).2 y hy
      show y.p.size + y.ns.length ≤ 43
      omega
    have := (h.sn x hx).1
    show bulkS bLs x.all ≤ 264
    omega
  have := h.pl
  have := h.sl
  have := h.ll
  unfold bSto
  omega
theorem setAt_mem {α : Type} {l : List α} {i : Nat} {f : α → α} {y : α} (h : y ∈ setAt l i f) : y ∈ l ∨ ∃ x, l[i]? = some x ∧ y = f x := by
  unfold setAt at h
  split at h
  · rename_i x hx
    rcases List.mem_or_eq_of_mem_set h with h | h
    · exact .inl h
    · exact .inr ⟨x, hx, h⟩
  · exact .inl h
theorem SmS.lie {s : Sto} (h : SmS s) {l : LieV} (hb : l.b.size ≤ 8) : SmS (lieS s l) := by
  by_cases e1 : l.k = 1
  · rw [lieS_1 e1]
    exact ⟨Nat.le_trans (List.length_filter_le _ _) h.pl, fun p hp => h.pn p ((List.mem_filter.1 hp).1), h.sl, h.sn, h.ll⟩
  by_cases e2 : l.k = 2
  · by_cases c : 0 ≤ l.n ∧ l.n ≤ s.lg.length
    · rw [lieS_2 e2 c]
      exact ⟨h.pl, h.pn, Nat.le_trans (List.length_filter_le _ _) h.sl, fun x hx => h.sn x ((List.mem_filter.1 hx).1), Nat.le_trans (by rw [List.length_take]; omega) h.ll⟩
    · rw [lieS_2n e2 c]; exact h
  by_cases e3 : l.k = 3
  · rw [lieS_3 e3]
    refine ⟨by rw [List.length_map]; exact h.pl, fun p hp => ?_, h.sl, h.sn, h.ll⟩
    obtain ⟨q, hq, rfl⟩ := List.mem_map.1 hp
    have h1 := h.pn q hq
    unfold bodyP
    split
    · refine ⟨by show (setAt q.its _ _).length ≤ 4; rw [setAt_len]; exact h1.1, fun x hx => ?_⟩
      rcases setAt_mem hx with hx | ⟨y, hy, rfl⟩
      · exact h1.2 x hx
      · exact hb
    · exact h1
  by_cases e4 : l.k = 4
  · by_cases c : 0 ≤ l.n ∧ l.n < s.lg.length
    · rw [lieS_4 e4 c]
      exact ⟨h.pl, h.pn, h.sl, h.sn, by show (setAt s.lg _ _).length ≤ 9; rw [setAt_len]; exact h.ll⟩
    · rw [lieS_4n e4 c]; exact h
  rw [lieS_5 e1 e2 e3 e4]; exact h
theorem LieP.bs {L : LieV} {nc : Nat} (h : LieP L nc) : L.b.size ≤ 8 := by
  have := h.b
  unfold lieBodies at this
  simp only [List.mem_cons, List.not_mem_nil, or_false] at this
  rcases this with e | e | e | e | e <;> rw [e] <;> decide
theorem setAt_setAt {α : Type} (l : List α) (i : Nat) (f g : α → α) : setAt (setAt l i f) i g = setAt l i fun x => g (f x) := by
  cases h : l[i]? with
  | none => unfold setAt; simp only [h]
  | some x =>
    rw [setAt_some h, setAt_some h, setAt_some (x := f x) (by rw [List.getElem?_set]; have := lt_of_some h; simp [this]), List.set_set]
theorem setAt_id {α : Type} (l : List α) (i : Nat) (f : α → α) (hf : ∀ x, l[i]? = some x → f x = x) : setAt l i f = l := by
  unfold setAt
  split
  · rename_i x hx
    rw [hf x hx]
    obtain ⟨hi, he⟩ := List.getElem?_eq_some_iff.1 hx
    rw [← he]
    exact List.set_getElem_self hi
  · rfl
theorem bodyP_twice (l : LieV) (p : Pk) : bodyP l (bodyP l p) = bodyP l p := by
  by_cases c : p.no = l.n ∧ 0 ≤ l.m ∧ l.m < p.its.length
  · have e : bodyP l p = ⟨p.no, setAt p.its l.m.toNat fun x => ⟨x.n, l.b⟩⟩ := if_pos c
    rw [e]
    have c2 : p.no = l.n ∧ 0 ≤ l.m ∧ l.m < (setAt p.its l.m.toNat fun x => (⟨x.n, l.b⟩ : It)).length := by rw [setAt_len]; exact c
    have e2 : bodyP l ⟨p.no, setAt p.its l.m.toNat fun x => ⟨x.n, l.b⟩⟩ = ⟨p.no, setAt (setAt p.its l.m.toNat fun x => ⟨x.n, l.b⟩) l.m.toNat fun x => ⟨x.n, l.b⟩⟩ := if_pos c2
    rw [e2, setAt_setAt]
  · have e : bodyP l p = p := if_neg c
    rw [e, e]
theorem lieS_twice {s : Sto} (h : WfS s) (l : LieV) : lieS (lieS s l) l = if l.k = 4 then s else lieS s l := by
  by_cases e1 : l.k = 1
  · rw [if_neg (by omega), lieS_1 e1, lieS_1 e1]
    simp only [List.filter_filter, Bool.and_self]
  by_cases e2 : l.k = 2
  · rw [if_neg (by omega)]
    by_cases c : 0 ≤ l.n ∧ l.n ≤ s.lg.length
    · rw [lieS_2 e2 c, lieS_2 e2 (by show 0 ≤ l.n ∧ l.n ≤ ((s.lg.take l.n.toNat).length : Nat); rw [List.length_take]; omega)]
      have e : (s.lg.take l.n.toNat).drop l.n.toNat = [] := by rw [List.drop_eq_nil_iff, List.length_take]; omega
      have e' : (s.lg.take l.n.toNat).take l.n.toNat = s.lg.take l.n.toNat := by rw [List.take_take, Nat.min_self]
      simp only [e, e', List.any_nil, Bool.not_false]
      rw [List.filter_eq_self.2 fun _ _ => rfl]
    · rw [lieS_2n e2 c, lieS_2n e2 c]
  by_cases e3 : l.k = 3
  · rw [if_neg (by omega), lieS_3 e3, lieS_3 e3]
    simp only [List.map_map, Function.comp_def, bodyP_twice]
  by_cases e4 : l.k = 4
  · rw [if_pos e4]
    by_cases c : 0 ≤ l.n ∧ l.n < s.lg.length
    · rw [lieS_4 e4 c, lieS_4 e4 (by show 0 ≤ l.n ∧ l.n < ((setAt s.lg l.n.toNat forkH).length : Nat); rw [setAt_len]; exact c)]
      simp only [setAt_setAt]
      rw [setAt_id]
      intro x hx
      have h1 := (h.lg x (List.mem_of_getElem? hx)).1
      obtain ⟨a, b⟩ := x
      have hw : ∀ z : Int, 0 ≤ z → z < 3 → wrap64 z = z := fun z h0 h3 => by unfold wrap64; omega
      unfold forkH
      have h1' : 1 ≤ a ∧ a ≤ 2 := h1
      simp only [Hd.mk.injEq, and_true]
      rw [hw (3 - a) (by omega) (by omega), hw _ (by omega) (by omega)]
      omega
    · rw [lieS_4n e4 c, lieS_4n e4 c]
  rw [if_neg e4, lieS_5 e1 e2 e3 e4, lieS_5 e1 e2 e3 e4]
end Go.Proofs.Ytpdkgpbfmpekgaa

