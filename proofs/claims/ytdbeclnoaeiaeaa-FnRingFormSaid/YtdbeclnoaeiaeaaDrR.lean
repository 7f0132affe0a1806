


/- The draws of rings. -/
import Derived.Test.YtdbeclnoaeiaeaaStR
import Derived.Test.YtdbeclnoaeiaeaaRgG
namespace Go.Proofs.Ytdbeclnoaeiaeaa
open Go.RowKit
theorem ring_lit (w1 : World) (base : Nat) (hb : base ≤ w1.heap.size) (x : Int) :
    OwnRg (((w1.alloc (.cells #[.int .i64 x] 3)).alloc (.cells #[] 37)).alloc (.cells #[.slice (some ⟨w1.heap.size, 0, none⟩) 1 1, .slice (some ⟨w1.heap.size + 1, 0, none⟩) 0 0] 30)) base (.slice (some ⟨w1.heap.size, 0, none⟩) 1 1) (.slice (some ⟨w1.heap.size + 1, 0, none⟩) 0 0) ⟨[x], []⟩ ∧
    Blk (((w1.alloc (.cells #[.int .i64 x] 3)).alloc (.cells #[] 37)).alloc (.cells #[.slice (some ⟨w1.heap.size, 0, none⟩) 1 1, .slice (some ⟨w1.heap.size + 1, 0, none⟩) 0 0] 30)) (w1.heap.size + 1 + 1) 30 #[.slice (some ⟨w1.heap.size, 0, none⟩) 1 1, .slice (some ⟨w1.heap.size + 1, 0, none⟩) 0 0] ∧
    Below w1.heap.size w1 (((w1.alloc (.cells #[.int .i64 x] 3)).alloc (.cells #[] 37)).alloc (.cells #[.slice (some ⟨w1.heap.size, 0, none⟩) 1 1, .slice (some ⟨w1.heap.size + 1, 0, none⟩) 0 0] 30)) := by
  have a1 := below_alloc w1 (.cells #[.int .i64 x] 3)
  have l1 : Blk (w1.alloc (.cells #[.int .i64 x] 3)) w1.heap.size 3 #[.int .i64 x] := Blk.new w1 3 _
  have a2 := below_alloc (w1.alloc (.cells #[.int .i64 x] 3)) (.cells #[] 37)
  have l2 := Blk.new (w1.alloc (.cells #[.int .i64 x] 3)) 37 #[]
  have a3 := below_alloc ((w1.alloc (.cells #[.int .i64 x] 3)).alloc (.cells #[] 37)) (.cells #[.slice (some ⟨w1.heap.size, 0, none⟩) 1 1, .slice (some ⟨w1.heap.size + 1, 0, none⟩) 0 0] 30)
  have k1 := Blk.new ((w1.alloc (.cells #[.int .i64 x] 3)).alloc (.cells #[] 37)) 30 #[.slice (some ⟨w1.heap.size, 0, none⟩) 1 1, .slice (some ⟨w1.heap.size + 1, 0, none⟩) 0 0]
  have l1' := blk_keep (blk_keep l1 a2) a3
  have l2' := blk_keep l2 a3
  simp only [World.size_alloc] at l2' k1
  refine ⟨⟨⟨rfl, .inr ⟨_, 1, _, rfl, hb, l1', Nat.le_refl _, by unfold maxLen; omega, rfl, rfl⟩⟩, ⟨rfl, .inr ⟨_, 0, _, rfl, by omega, l2', Nat.le_refl _, by unfold maxLen; omega, rfl, rfl⟩⟩⟩, k1, ((Below.refl _ _).alloc (Nat.le_refl _) _).alloc (by simp) _ |>.alloc (by simp only [World.size_alloc]; omega) _⟩

/-- Good, of few keys and grants. -/
structure Fine (r : Rg) (n : Nat) : Prop where
  good : RgGood r
  keys : r.keys.length ≤ n
  grs : r.grs.length ≤ n
  pos : 1 ≤ r.keys.length
theorem Fine.sz {r : Rg} {n : Nat} (h : Fine r n) (hn : n ≤ 1048576) : szP r := ⟨Nat.le_trans h.keys hn, Nat.le_trans h.grs hn⟩
theorem ring_few {r : Rg} (h : ringP r) : r.keys.length ≤ 9 ∧ r.grs.length ≤ 4 := by
  refine ⟨h.2.2.2, ?_⟩
  have hm : ∀ x ∈ r.grs, 1 ≤ x.m ∧ x.m ≤ 4 := fun x hx => by
    have := h.2.1.1 x hx
    exact ⟨this.1, this.2.1⟩
  rcases asc_len r.grs 1 hm h.2.1.2 with h2 | h2
  · omega
  · rw [h2]; simp
theorem turn_fine {r r' : Rg} {key : Int} {ok : Bool} (h : RTurn r key r' ok) (hg : RgGood r) (hk : In64 key) (hok : ok = true) : Fine r' 10 := by
  refine ⟨turn_good h hg hk, ?_, ?_, turn_pos h hok⟩ <;> rcases h with ⟨_, h1, _, rfl⟩ | ⟨h, _⟩ | ⟨h, _⟩ <;> first | (rw [h] at hok; cases hok; done) | (have := ring_few h1.1; simp; omega)
theorem shut_fine {r r' : Rg} {m key : Int} {ok : Bool} (h : RShut r m key r' ok) (hg : RgGood r) (hk : In64 key) (hok : ok = true) : Fine r' 10 := by
  refine ⟨shut_good h hg hk, ?_, ?_, shut_pos h hok⟩ <;> rcases h with ⟨_, h1, _, k, x, _, _, _, rfl⟩ | ⟨h, _⟩ | ⟨h, _⟩ <;> first | (rw [h] at hok; cases hok; done) | (have := ring_few h1.1; simp; omega)
theorem let_fine {r r' : Rg} {m : Int} {all ok : Bool} (h : RLet r m all r' ok) (hg : RgGood r) (hk : In64 m) (hok : ok = true) : Fine r' 10 := by
  refine ⟨let_good h hg hk, ?_, ?_, let_pos h hok⟩ <;> rcases h with ⟨_, h1, _, rfl⟩ | ⟨h, _⟩ | ⟨h, _⟩ <;> first
    | (rw [h] at hok; cases hok; done)
    | (have := ring_few h1.1; show r.keys.length ≤ 10; omega)
    | (have := ring_few h1.1; show (insG _ r.grs).length ≤ 10; rw [insG_len]; omega)

/-- What the loop of l92Ring keeps: x lies in block gx. -/
structure RingX (m : Nat) (w0 : World) (lo hi g : Nat) (l : List Int) (gz gx q : Nat) (rr : Rg) (va vb : Value) (w : World) : Prop where
  rd : Rd w lo hi g l q
  blk : Blk w gx 30 #[va, vb]
  res : Blk w gz 30 #[.slice none 0 0, .slice none 0 0]
  own : OwnRg w w0.heap.size va vb rr
  fine : Fine rr m
  chg : Chg (fun b => b = g) w0 w
  ng : g < w0.heap.size
  nz : gz = w0.heap.size
  nx : w0.heap.size < gx
/-- In the round: y lies in block gy, with what a call gave. -/
structure RingY (w0 : World) (lo hi g : Nat) (l : List Int) (gz gx gy q : Nat) (rr r1 : Rg) (va vb vc vd : Value) (ok1 : Bool) (w : World) : Prop where
  x : RingX 10 w0 lo hi g l gz gx q rr va vb w
  blk : Blk w gy 30 #[vc, vd]
  own : OwnRg w w0.heap.size vc vd r1
  fine : ok1 = true → Fine r1 10
  ny : gx < gy
theorem rg_blk_ne {e t : TypeId} {w : World} {α : Type} {F : Flat α} {base : Nat} {v : Value} {xs : List α} (ho : OwnF F e w base v xs) {g : Nat} {cs : Array Value} (hk : Blk w g t cs) (he : e ≠ t) : ∀ b, v.ownBlock = some b → b ≠ g := by
  rintro b hb rfl
  rcases ho.2 with ⟨rfl, _⟩ | ⟨g', cap, cur, rfl, _, hg, _⟩
  · cases hb
  · cases hb
    unfold Blk at hk
    rw [hk] at hg
    simp at hg
    exact he hg.2.symm
theorem chg_two (w : World) (b : Nat) (u v : Value) : Chg (fun c => c = b) w ((w.setCell ⟨b, 0, none⟩ u).setCell ⟨b, 1, none⟩ v) :=
  ((Chg.refl (fun c => c = b) w).setCell (p := ⟨b, 0, none⟩) (.inl rfl) u).setCell (p := ⟨b, 1, none⟩) (.inl rfl) v
theorem RingX.on {m : Nat} {w0 w w' : World} {lo hi g : Nat} {l : List Int} {gz gx q q' : Nat} {rr : Rg} {va vb : Value} (h : RingX m w0 lo hi g l gz gx q rr va vb w) (hr : Rd w' lo hi g l q') {S : Nat → Prop} (hc : Chg S w w') (hS : ∀ b, b < w.heap.size → S b → b = g ∨ gx < b) (h1 : ∀ b, va.ownBlock = some b → ¬ S b) (h2 : ∀ b, vb.ownBlock = some b → ¬ S b) : RingX m w0 lo hi g l gz gx q' rr va vb w' := by
  obtain ⟨_, kx, kz, ox, fn, chx, ng, nz, nx⟩ := h
  have zx := kx.lt
  have zz := kz.lt
  have z0 := chx.size
  refine ⟨hr, blk_chg kx hc fun hs => ?_, blk_chg kz hc fun hs => ?_, ⟨ox.keys.chg hc h1, ox.grs.chg hc h2⟩, fn, chx.trans hc fun b hb hs => ?_, ng, nz, nx⟩
  · rcases hS _ zx hs with h | h <;> omega
  · rcases hS _ zz hs with h | h <;> omega
  · rcases hS b (by omega) hs with h | h
    · exact h
    · omega
theorem RingY.pick {w0 w w' : World} {lo hi g : Nat} {l : List Int} {gz gx gy q q' : Nat} {rr r1 : Rg} {va vb vc vd : Value} {ok1 : Bool} (h : RingY w0 lo hi g l gz gx gy q rr r1 va vb vc vd ok1 w) (hr : Rd w' lo hi g l q') (hc : Chg (fun b => b = g) w w') : RingY w0 lo hi g l gz gx gy q' rr r1 va vb vc vd ok1 w' := by
  obtain ⟨x, ky, oy, fy, ny⟩ := h
  have ng := x.ng; have nz := x.nz; have nx := x.nx
  exact ⟨x.on hr hc (fun b _ hb => .inl hb) (fun b hb e => by have := (x.own.keys.at_ hb).1; omega) (fun b hb e => by have := (x.own.grs.at_ hb).1; omega), blk_chg ky hc (by omega),
    ⟨oy.keys.chg hc fun b hb e => (by have := (oy.keys.at_ hb).1; omega), oy.grs.chg hc fun b hb e => (by have := (oy.grs.at_ hb).1; omega)⟩, fy, ny⟩
/-- x = y. -/
theorem RingY.into {w0 w : World} {lo hi g : Nat} {l : List Int} {gz gx gy q : Nat} {rr r1 : Rg} {va vb vc vd : Value} (h : RingY w0 lo hi g l gz gx gy q rr r1 va vb vc vd true w) : RingX 10 w0 lo hi g l gz gx q r1 vc vd ((w.setCell ⟨gx, 0, none⟩ vc).setCell ⟨gx, 1, none⟩ vd) := by
  obtain ⟨⟨rd, kx, kz, ox, fn, chx, ng, nz, nx⟩, ky, oy, fy, ny⟩ := h
  have hc := chg_two w gx vc vd
  have hh := rd.chg hc (fun b hb e => by
    obtain ⟨A, c, _, _, _, hg⟩ := rd
    omega)
  refine ⟨hh, (kx.set_ 0 vc).set_ 1 vd, blk_chg kz hc (by omega), ⟨oy.keys.chg hc (rg_blk_ne oy.keys kx (by decide)), oy.grs.chg hc (rg_blk_ne oy.grs kx (by decide))⟩, fy rfl, chx.trans hc fun b hb e => (by omega), ng, nz, nx⟩
section
variable {w : World} {lo hi g : Nat} {l : List Int} {N s ia ic bk : Nat} {fx : Bool} {ty : TypeId} {n : Nat} {S : Nat → Prop} {pre : List Nat}
/-- A ring that was there. -/
theorem PastS.rg (x : PastS w lo hi g l N s ia ic bk fx ty n S pre) {base : Nat} {va vb : Value} {r : Rg} (h : OwnRg w base va vb r) (hg : g < base) (h1 : ∀ b, va.ownBlock = some b → b ≠ bk) (h2 : ∀ b, vb.ownBlock = some b → b ≠ bk) (h3 : ∀ b, ¬ S b) : OwnRg x.to base va vb r := by
  refine ⟨h.keys.chg x.ok fun b hb => ?_, h.grs.chg x.ok fun b hb => ?_⟩
  · rintro (e | e | ⟨_, e⟩)
    · have := h.keys.at_ hb; omega
    · rcases x.bw b e with e | e
      · exact h1 b hb e
      · have := h.keys.at_ hb; omega
    · exact h3 b e
  · rintro (e | e | ⟨_, e⟩)
    · have := h.grs.at_ hb; omega
    · rcases x.bw b e with e | e
      · exact h2 b hb e
      · have := h.grs.at_ hb; omega
    · exact h3 b e
/-- What a call gave, in blocks that the region leaves alone. -/
def RgCall (base : Nat) (u : Value) (x : PastS w lo hi g l N s ia ic bk fx ty n S pre) : Prop :=
  ∃ vc vd r1 ok1, u = .tuple #[.agg #[vc, vd], .bool ok1] ∧ OwnRg x.to base vc vd r1 ∧ ((∀ b, vc.ownBlock = some b → x.free b) ∧ ∀ b, vd.ownBlock = some b → x.free b) ∧ (ok1 = true → Fine r1 10)
theorem RgCall.le {base : Nat} {u : Value} {x y : PastS w lo hi g l N s ia ic bk fx ty n S pre} (h : RgCall base u x) (hl : PastS.le x y) : RgCall base u y := by
  obtain ⟨vc, vd, r1, ok1, rfl, ho, ⟨h1, h2⟩, hf⟩ := h
  exact ⟨vc, vd, r1, ok1, rfl, ⟨ho.keys.chg hl.chg fun b hb => hl.not (h1 b hb), ho.grs.chg hl.chg fun b hb => hl.not (h2 b hb)⟩, ⟨fun b hb => hl.free (h1 b hb), fun b hb => hl.free (h2 b hb)⟩, hf⟩
theorem RgCall.new {base : Nat} {vc vd : Value} {r1 : Rg} {ok1 : Bool} (x : PastS w lo hi g l N s ia ic bk fx ty n S pre) {w2 : World} (hb : Below x.to.heap.size x.to w2) (ho : OwnRg w2 x.to.heap.size vc vd r1) (hf : ok1 = true → Fine r1 10) (hbase : base ≤ w.heap.size) (hg : g < w.heap.size) (v : Value) : RgCall base (.tuple #[.agg #[vc, vd], .bool ok1]) (x.told hb v) := by
  have hs := x.ok.size
  have hfree : ∀ b, x.to.heap.size ≤ b ∧ b < w2.heap.size → (x.told hb v).free b := fun b ⟨h1, h2⟩ => ⟨h2, by omega, fun e => (by
    obtain ⟨_, _, cs, _, hk⟩ := x.bx b e
    have := hk.lt
    omega), fun e => (by have := x.sf b e; omega)⟩
  exact ⟨vc, vd, r1, ok1, rfl, ho.base (by omega), ⟨fun b h => hfree b (ho.keys.at_ h), fun b h => hfree b (ho.grs.at_ h)⟩, hf⟩
/-- The box holds what the call gave. -/
def RgFull (x : PastS w lo hi g l N s ia ic bk fx ty n S pre) : Prop :=
  x.done = true ∧ ∃ b vc vd ok1, x.box = some b ∧ x.res = some (.tuple #[.agg #[vc, vd], .bool ok1]) ∧ Blk x.to b ty #[vc, vd]
theorem RgFull.le {x y : PastS w lo hi g l N s ia ic bk fx ty n S pre} (h : RgFull x) (hl : PastS.le x y) : RgFull y := by
  obtain ⟨hd, b, vc, vd, ok1, hb, hr, hk⟩ := h
  obtain ⟨h1, h2, h3⟩ := hl.full hd hb hk
  exact ⟨h1, b, vc, vd, ok1, h2, hl.res _ hr, h3⟩
end
structure RgTup (u vc vd : Value) (ok1 : Bool) : Prop where
  eq : u = .tuple #[.agg #[vc, vd], .bool ok1]
  a : ∃ A m c, vc = .slice A m c
  b : ∃ A m c, vd = .slice A m c
theorem RgTup.of {w : World} {base : Nat} {vc vd : Value} {r1 : Rg} {ok1 : Bool} (h : OwnRg w base vc vd r1) : RgTup (.tuple #[.agg #[vc, vd], .bool ok1]) vc vd ok1 := by
  obtain ⟨A, c, rfl⟩ := h.keys.form
  obtain ⟨B, d, rfl⟩ := h.grs.form
  exact ⟨rfl, ⟨_, _, _, rfl⟩, ⟨_, _, _, rfl⟩⟩
theorem pair_of {cs : Array Value} (h : cs.size = 2) : ∃ a b, cs = #[a, b] := by
  obtain ⟨l⟩ := cs
  match l, h with
  | [a, b], _ => exact ⟨a, b, rfl⟩
/-- What l92Ring gives. -/
def RingPost (w : World) (lo hi g : Nat) (l : List Int) (p : Nat) (e : Ending) (w' : World) : Prop :=
  ∃ va vb rr q, e = .returned (.agg #[va, vb]) ∧ OwnRg w' w.heap.size va vb rr ∧ Fine rr 12 ∧ Rd w' lo hi g l q ∧ q ≤ p + 900 ∧ Chg (fun b => b = g) w w'
theorem Fine.up {r : Rg} {m n : Nat} (h : Fine r m) (hn : m ≤ n) : Fine r n := ⟨h.good, Nat.le_trans h.keys hn, Nat.le_trans h.grs hn, h.pos⟩
theorem RingX.up {m n : Nat} {w0 w : World} {lo hi g : Nat} {l : List Int} {gz gx q : Nat} {rr : Rg} {va vb : Value} (h : RingX m w0 lo hi g l gz gx q rr va vb w) (hn : m ≤ n) : RingX n w0 lo hi g l gz gx q rr va vb w := ⟨h.rd, h.blk, h.res, h.own, h.fine.up hn, h.chg, h.ng, h.nz, h.nx⟩
theorem RingX.out {w0 w : World} {lo hi g : Nat} {l : List Int} {gz gx q p : Nat} {rr : Rg} {va vb : Value} (h : RingX 12 w0 lo hi g l gz gx q rr va vb w) (hq : q ≤ p + 900) : RingPost w0 lo hi g l p (.returned (.agg #[va, vb])) ((w.setCell ⟨gz, 0, none⟩ va).setCell ⟨gz, 1, none⟩ vb) := by
  have hc := chg_two w gz va vb
  have hng := h.ng; have hnz := h.nz
  have hi' := h.rd.hi_
  refine ⟨va, vb, rr, q, rfl, ⟨h.own.keys.chg hc (rg_blk_ne h.own.keys h.res (by decide)), h.own.grs.chg hc (rg_blk_ne h.own.grs h.res (by decide))⟩, h.fine, h.rd.chg hc (fun b hb e => by omega), hq, h.chg.trans hc fun b hb e => by omega⟩
/-- x.Keys = append(x.Keys, k). -/
theorem RingX.key {m : Nat} {w0 w w' : World} {lo hi g : Nat} {l : List Int} {gz gx q q' gk : Nat} {rr : Rg} {k c : Nat} {vb v : Value} {k0 : Int} (h : RingX m w0 lo hi g l gz gx q rr (.slice (some ⟨gk, 0, none⟩) k c) vb w) (hc : Chg (fun b => b = g ∨ b = gk) w w') (hr : Rd w' lo hi g l q') (ho : OwnF FInt 3 w' w0.heap.size v (rr.keys ++ [k0])) (hk : In64 k0) : RingX (m + 1) w0 lo hi g l gz gx q' ⟨rr.keys ++ [k0], rr.grs⟩ v vb (w'.setCell ⟨gx, 0, none⟩ v) := by
  have hng := h.ng; have hnz := h.nz; have hnx := h.nx; have hat := h.own.keys.at_ (g := gk) rfl
  have hap := own_apart h.own.keys h.own.grs (by decide)
  have n1 := rg_blk_ne h.own.keys h.blk (by decide) gk rfl
  have n2 := rg_blk_ne h.own.keys h.res (by decide) gk rfl
  have kx := blk_chg h.blk hc (fun e => by omega)
  have kz := blk_chg h.res hc (fun e => by omega)
  have og := h.own.grs.chg hc (fun b hb e => by
    have := h.own.grs.at_ hb
    rcases e with e | rfl
    · omega
    · exact hap _ rfl hb)
  have hh := hr.hi_
  have hcx : Chg (fun b => b = gx) w' (w'.setCell ⟨gx, 0, none⟩ v) := (Chg.refl (fun b => b = gx) w').setCell (p := ⟨gx, 0, none⟩) (.inl rfl) v
  refine ⟨hr.chg hcx fun b hb e => (by omega), kx.set_ 0 v, blk_chg kz hcx (by omega), ⟨ho.chg hcx (rg_blk_ne ho kx (by decide)), og.chg hcx (rg_blk_ne og kx (by decide))⟩, ⟨⟨fun x hx => ?_, h.fine.good.grs⟩, ?_, ?_, ?_⟩, (h.chg.trans hc fun b hb e => by omega).trans hcx fun b hb e => by omega, hng, hnz, hnx⟩
  · rcases List.mem_append.1 hx with hx | hx
    · exact h.fine.good.keys x hx
    · rw [List.mem_singleton.1 hx]; exact hk
  · have := h.fine.keys; simp; omega
  · have := h.fine.grs; show rr.grs.length ≤ m + 1; omega
  · simp
/-- x.Grants = append(x.Grants, y). -/
theorem RingX.gr {m : Nat} {w0 w w' : World} {lo hi g : Nat} {l : List Int} {gz gx q q' : Nat} {rr : Rg} {va vb v : Value} {y : Gr} (h : RingX m w0 lo hi g l gz gx q rr va vb w) (hc : Chg (fun b => b = g ∨ vb.ownBlock = some b) w w') (hr : Rd w' lo hi g l q') (ho : OwnF FGr 37 w' w0.heap.size v (rr.grs ++ [y])) (hy : FGr.good y) : RingX (m + 1) w0 lo hi g l gz gx q' ⟨rr.keys, rr.grs ++ [y]⟩ va v (w'.setCell ⟨gx, 1, none⟩ v) := by
  have hng := h.ng; have hnz := h.nz; have hnx := h.nx
  have hap := own_apart h.own.keys h.own.grs (by decide)
  have n1 := rg_blk_ne h.own.grs h.blk (by decide)
  have n2 := rg_blk_ne h.own.grs h.res (by decide)
  have kx := blk_chg h.blk hc (fun e => by
    rcases e with e | e
    · omega
    · exact n1 _ e rfl)
  have kz := blk_chg h.res hc (fun e => by
    rcases e with e | e
    · omega
    · exact n2 _ e rfl)
  have og := h.own.keys.chg hc (fun b hb e => by
    have := h.own.keys.at_ hb
    rcases e with e | e
    · omega
    · exact hap _ hb e)
  have hh := hr.hi_
  have hcx : Chg (fun b => b = gx) w' (w'.setCell ⟨gx, 1, none⟩ v) := (Chg.refl (fun b => b = gx) w').setCell (p := ⟨gx, 1, none⟩) (.inl rfl) v
  refine ⟨hr.chg hcx fun b hb e => (by omega), kx.set_ 1 v, blk_chg kz hcx (by omega), ⟨og.chg hcx (rg_blk_ne og kx (by decide)), ho.chg hcx (rg_blk_ne ho kx (by decide))⟩, ⟨⟨h.fine.good.keys, fun x hx => ?_⟩, ?_, ?_, h.fine.pos⟩, (h.chg.trans hc fun b hb e => by
    rcases e with e | e
    · exact e
    · have := (h.own.grs.at_ e).1; omega).trans hcx fun b hb e => by omega, hng, hnz, hnx⟩
  · rcases List.mem_append.1 hx with hx | hx
    · exact h.fine.good.grs x hx
    · rw [List.mem_singleton.1 hx]; exact hy
  · have := h.fine.keys; show rr.keys.length ≤ m + 1; omega
  · have := h.fine.grs; simp; omega
set_option maxHeartbeats 8000000 in
theorem l92Ring_any (l : List Int) (g p lo hi : Nat) (w : World) (h : Rd w lo hi g l p) (hp : p ≤ 1000) :
    Calls Try.prog 59 #[.pointer (some ⟨g, 0, none⟩)] w (RingPost w lo hi g l p) := by
  go_enter Try.func59, Try.ntmps59
  go_wp2_with fail
  have r0 := Blk.new w 30 #[.slice none 0 0, .slice none 0 0]
  have hrg := h.lt
  refine (pick_any _ _ _ _ _ _ _ (h.alloc _) (by omega)).mono ?_
  rintro e w1 ⟨v1, rfl, ⟨_, hp1⟩, hr1, hc1⟩
  obtain ⟨p1, p2⟩ := hp1 (by omega)
  clear hp1
  have k0 := blk_chg r0 hc1 (by omega)
  have ck0 := k0.cell
  have fk0 := k0.frozen
  go_wp2_with fail
  have z1 := hc1.size
  simp only [World.size_alloc] at z1
  obtain ⟨o2, k1, b2⟩ := ring_lit w1 w.heap.size (by omega) (1 + v1)
  generalize ((w1.alloc (.cells #[.int .i64 (1 + v1)] 3)).alloc (.cells #[] 37)).alloc (.cells #[.slice (some ⟨w1.heap.size, 0, none⟩) 1 1, .slice (some ⟨w1.heap.size + 1, 0, none⟩) 0 0] 30) = w2 at *
  have hr2 := hr1.chg (Chg.of_below (S := fun _ => False) b2) (fun _ _ h => h)
  refine (pick_any _ _ _ _ _ _ _ hr2 (by omega)).mono ?_
  rintro e w3 ⟨v2, rfl, ⟨_, hp2⟩, hr3, hc3⟩
  obtain ⟨p3, p4⟩ := hp2 (by omega)
  clear hp2
  have z3 := b2.size
  have k2 := blk_chg k1 hc3 (by omega)
  have o3 : OwnRg w3 w.heap.size _ _ _ := ⟨o2.keys.chg hc3 (fun b hb => by have := o2.keys.at_ hb; omega), o2.grs.chg hc3 (fun b hb => by have := o2.grs.at_ hb; omega)⟩
  go_wp2_with fail
  have k0' := blk_chg (blk_keep k0 b2) hc3 (by omega)
  have hN : RingX 10 w lo hi g l w.heap.size (w1.heap.size + 1 + 1) (p + 2) ⟨[1 + v1], []⟩ (.slice (some ⟨w1.heap.size, 0, none⟩) 1 1) (.slice (some ⟨w1.heap.size + 1, 0, none⟩) 0 0) w3 :=
    ⟨hr3, k2, k0', o3, ⟨⟨fun x hx => by rw [List.mem_singleton.1 hx]; unfold In64; omega, fun x hx => (by cases hx)⟩, by simp, by simp, by simp⟩,
      (((Chg.refl (fun b => b = g) w).alloc _).trans hc1 fun i _ e => e).trans ((Chg.of_below (S := fun b => b = g) b2).trans hc3 fun i _ e => e) fun i _ e => e, hrg, rfl, by omega⟩
  have HN := Lib.hid hN
  clear hN hr3 k2 k0' o3 hc1 b2 hc3 r0 ck0 fk0 o2 k1 hr2 hr1 k0
  generalize w1.heap.size + 1 + 1 = gx at *
  go_loopw [4] (fun i wr => ∃ (n : Nat) (q : Nat) (rr : Rg) (va vb : Value), i = .int .i64 n ∧ n ≤ 7 ∧ q + 100 * n ≤ p + 800 ∧ RingX 10 w lo hi g l w.heap.size gx q rr va vb wr) (fun i _ => (intOf i).toNat)
  case atStart =>
    obtain ⟨n, rfl⟩ := Int.eq_ofNat_of_zero_le p3
    exact ⟨n, p + 2, _, _, _, rfl, by omega, by omega, HN.out⟩
  case round =>
    obtain ⟨n, q, rr, va, vb, rfl, hn, hq, hx⟩ := hrel
    have HX := Lib.hid hx
    obtain ⟨rd, kx, kz, ox, fn, chx, _, _, nx⟩ := hx
    have FN := Lib.hid fn
    clear fn
    obtain ⟨A, c, rfl⟩ := ox.keys.form
    obtain ⟨B, d, rfl⟩ := ox.grs.form
    have ckx := kx.cell
    have zr := chx.size
    have zx := kx.lt
    by_cases hn0 : n = 0
    · subst hn0
      go_wp2_with fail
      refine (pick_any _ _ _ _ _ _ 40 rd (by omega)).mono ?_
      rintro e w5 ⟨v7, rfl, ⟨_, p7⟩, rd5, hc5⟩
      obtain ⟨p5, p6⟩ := p7 (by omega)
      clear p7
      have hx5 := HX.out.on rd5 hc5 (fun b _ hb => .inl hb) (fun b hb e => by have := (ox.keys.at_ hb).1; omega) (fun b hb e => by have := (ox.grs.at_ hb).1; omega)
      clear HX rd kx kz ox chx ckx rd5 hc5 zx zr
      have HX5 := Lib.hid hx5
      obtain ⟨rd5, kx, kz, ox, _, chx, ng, _, _⟩ := hx5
      have zr := chx.size
      have zx := kx.lt
      have ckx := kx.cell
      have fkx := kx.frozen
      have fkz := kz.frozen
      have cka : w5.cell? ⟨gx, 0, none⟩ = some (.slice A rr.keys.length c) := kx.cell 0
      have ckb : w5.cell? ⟨gx, 1, none⟩ = some (.slice B rr.grs.length d) := kx.cell 1
      by_cases h70 : v7 = 0
      · have t7 : (v7 == 0) = true := beq_iff_eq.2 h70
        obtain ⟨gk, ck, hke⟩ := ox.keys.some_ (by have := FN.out.pos; omega)
        simp only [Value.slice.injEq, true_and] at hke
        obtain ⟨rfl, rfl⟩ := hke
        have hpos := FN.out.pos
        have hlt : (0 : Int) < (rr.keys.length : Int) := by omega
        obtain ⟨k0, hk0⟩ := some_of_lt (l := rr.keys) (k := 0) (by omega)
        have ckk : w5.cell? ⟨gk, 0, none⟩ = some (.int .i64 k0) := ox.keys.cell (i := 0) (j := 0) hk0 rfl
        have ngk : gk ≠ gx := rg_blk_ne ox.keys kx (by decide) gk rfl
        have ngk2 := ox.keys.at_ (g := gk) rfl
        have HK0 := Lib.hid hk0; clear hk0
        go_wp2_with fail
        have hsf : ∀ b, b = gk → b ≠ g ∧ hi ≤ b ∧ b ≠ w5.heap.size ∧ b < w5.heap.size := fun b hb => by subst hb; exact ⟨by omega, Nat.le_trans rd5.hi_ (by omega), by omega, ngk2.2⟩
        have hne : Nonempty (PastS w5 lo hi g l (q + 1 + 8) 7 99 99 w5.heap.size false 30 2 (fun b => b = gk) [5]) := st_some rd5 (by omega) none (fun b hb => by cases hb) (fun h => by cases h) hsf (fun b hb => by cases hb)
        have past0 := fun x : PastS w5 lo hi g l (q + 1 + 8) 7 99 99 w5.heap.size false 30 2 (fun b => b = gk) [5] => pasts_cell cka (x := x) (by show gx ≠ g; omega) (by show gx ≠ _; omega) (fun h => ngk h.symm)
        refine region_stT (N := q + 1 + 8) (s := 7) (ia := 99) (ic := 99) (bk := w5.heap.size) (fx := false) (ty := 30) (n := 2) (S := fun b => b = gk) (pre := [5]) 8 (q + 1) [0, 1, 2, 3, 4] [5, 6, 7] (by kernel_rfl) (by kernel_rfl) (by kernel_rfl) rd5 (by omega) none (fun b hb => by cases hb) (fun h => by cases h) hsf (fun b hb => by cases hb) (.inl rfl) ?_
        simp only [pick, List.map, List.getD_cons_zero, List.getD_cons_succ]
        repeat (go_big_quiet_step (fail))
        refine wpQuiet_nil ?_
        clear past0 hne
        apply Exists.intro
        apply st_lookP (fun v => v = .int .i64 k0)
        · rfl
        · decide
        · intro x _ hdn Qx hQ'
          have hQ := Lib.hid hQ'; clear hQ'
          have ca := pasts_pre (x := x) ckk (by show gk ≠ g; omega) (by show gk ≠ _; omega) hdn
          go_wp2_with fail
          exact hQ.out _ rfl
        intro u5
        simp only [Act.put, List.setIfInBounds_toArray, List.set_cons_zero, List.set_cons_succ]
        apply st_any (fun v x => ∃ b, v = .slice (some ⟨b, 0, none⟩) 1 1 ∧ Blk x.to b 3 #[.int .i64 k0] ∧ x.free b)
        · rfl
        · exact fun v x y ⟨b, e, hk, hf⟩ hl => ⟨b, e, hl.blk hf hk, hl.free hf⟩
        · intro x hF Qx hQ'
          have hQ := Lib.hid hQ'; clear hQ'
          cases hF.1 (by kernel_rfl)
          go_wp2_with fail
          exact hQ.out _ _ (below_alloc _ _) ⟨_, rfl, Blk.new _ _ _, x.free_new _ _⟩
        intro u6
        simp only [Act.put, List.setIfInBounds_toArray, List.set_cons_zero, List.set_cons_succ]
        apply st_eff (fun v x => x.done = true ∧ OwnF FInt 3 x.to w.heap.size v (rr.keys ++ [k0]))
        · rfl
        · rfl
        · intro j hj
          obtain rfl := List.mem_singleton.1 hj
          exact behind_of 9 _ _ (by kernel_rfl)
        · exact fun v x y ⟨hd, ho⟩ hl => ⟨hl.done hd, ho.chg (hl.done_chg hd) fun b hb e => (by have := (ho.at_ hb).1; omega)⟩
        · intro x hF hdn Qx hQ'
          have hQ := Lib.hid hQ'; clear hQ'
          obtain ⟨b, rfl, hkb, hfb⟩ := hF.1 (by kernel_rfl)
          have oxx := ox.keys.chg (x.before hdn) (fun b hb e => by have := ox.keys.at_ hb; omega)
          refine app_flatB (F := FInt) (v := .slice (some ⟨gk, 0, none⟩) rr.keys.length c) rfl (.tmp 62) (.tmp 67) 22 rfl elem_int k0 rfl oxx rfl hkb rfl (by have := FN.out.keys; omega) (Nat.le_trans zr x.ok.size) ?_
          intro v8 w8 o8 ch8 at8
          refine wpList_nil ?_
          exact hQ.out _ _ (ch8.mono fun b _ hb => by cases hb; rfl) ⟨rfl, o8⟩
        intro u7
        simp only [Act.put, List.setIfInBounds_toArray, List.set_cons_zero, List.set_cons_succ]
        refine st_end fun x hF => ?_
        simp only [allF] at hF
        obtain ⟨⟨hdn, o7⟩, -⟩ := hF
        obtain ⟨A7, c7, rfl⟩ := o7.form
        simp only [List.length_append, List.length_cons, List.length_nil, Nat.zero_add] at o7
        have hcx : Chg (fun b => b = g ∨ b = gk) w5 x.to := x.ok.mono fun b hb e => by
          rcases e with e | e | ⟨_, e⟩
          · exact .inl e
          · rcases x.bw b e with e | e <;> omega
          · exact .inr e
        have hZ := HX5.out.key (q' := x.q) hcx x.rd o7 (FN.out.good.keys k0 (List.mem_of_getElem? HK0.out))
        have hql : x.q ≤ q + 1 + 8 := x.lim
        have kx6 := blk_chg kx hcx (by omega)
        have kz6 := blk_chg kz hcx (fun e => by
          have := rg_blk_ne ox.keys kz (by decide) gk rfl
          omega)
        simp only [List.drop]
        have HZ := Lib.hid hZ
        clear hZ
        have hkx := HZ.out.blk
        have ck6 := kx6.cell
        have fk6 := kx6.frozen
        have ck7 := kz6.cell
        have fk7 := kz6.frozen
        have hnx := HZ.out.nx
        go_wp2_with fail
        exact bodyPost_ret (v := .agg #[.slice A7 (rr.keys.length + 1) c7, .slice B rr.grs.length d]) (by simp [results, Try.results59, go_sem, ck7]) rfl (RingX.out (p := p) (HZ.out.up (by omega)) (by omega))
      · have t7 : (v7 == 0) = false := beq_eq_false_iff_ne.2 h70
        by_cases h71 : v7 = 1
        · have t8 : (v7 == 1) = true := beq_iff_eq.2 h71
          go_wp2_with fail
          have hsf : ∀ b, (Value.slice B rr.grs.length d).ownBlock = some b → b ≠ g ∧ hi ≤ b ∧ b ≠ w5.heap.size ∧ b < w5.heap.size := fun b hb => by
            have := ox.grs.at_ hb
            exact ⟨by omega, Nat.le_trans rd5.hi_ (by omega), by omega, this.2⟩
          have hne : Nonempty (PastS w5 lo hi g l (q + 1 + 8) 6 99 99 w5.heap.size false 30 2 (fun b => (Value.slice B rr.grs.length d).ownBlock = some b) []) := st_some rd5 (by omega) none (fun b hb => by cases hb) (fun h => by cases h) hsf (fun b hb => by cases hb)
          have past0 := fun x : PastS w5 lo hi g l (q + 1 + 8) 6 99 99 w5.heap.size false 30 2 (fun b => (Value.slice B rr.grs.length d).ownBlock = some b) [] => pasts_cell ckb (x := x) (by show gx ≠ g; omega) (by show gx ≠ _; omega) (fun h => rg_blk_ne ox.grs kx (by decide) _ h rfl)
          refine region_stT (N := q + 1 + 8) (s := 6) (ia := 99) (ic := 99) (bk := w5.heap.size) (fx := false) (ty := 30) (n := 2) (S := fun b => (Value.slice B rr.grs.length d).ownBlock = some b) (pre := []) 7 (q + 1) [0, 1, 2] [3, 4, 5, 6] (by kernel_rfl) (by kernel_rfl) (by kernel_rfl) rd5 (by omega) none (fun b hb => by cases hb) (fun h => by cases h) hsf (fun b hb => by cases hb) (.inl rfl) ?_
          simp only [pick, List.map, List.getD_cons_zero, List.getD_cons_succ]
          repeat (go_big_quiet_step (fail))
          refine wpQuiet_nil ?_
          clear past0 hne
          apply Exists.intro
          apply st_pick (fun v => ∃ m : Int, v = .int .i64 m ∧ 0 ≤ m ∧ m < 6)
          · rfl
          · intro x _ hN Qx hQ'
            have hQ := Lib.hid hQ'; clear hQ'
            go_wp2_with fail
            refine (pick_any _ _ _ _ _ _ 6 x.rd (by omega)).mono ?_
            rintro e wy ⟨m, rfl, ⟨_, q1⟩, rdy, hcy⟩
            obtain ⟨q2, q3⟩ := q1 (by omega)
            go_wp2_with fail
            exact hQ.out _ _ rdy hcy ⟨m, rfl, q2, q3⟩
          intro u3
          simp only [Act.put, List.setIfInBounds_toArray, List.set_cons_zero, List.set_cons_succ]
          apply st_look (fun v => ∃ m : Int, v = .agg #[.int .i64 m, .int .i64 1, .int .i64 0] ∧ 0 ≤ m ∧ m < 6)
          · rfl
          · intro x hF Qx hQ'
            have hQ := Lib.hid hQ'; clear hQ'
            obtain ⟨m, rfl, q1, q2⟩ := hF.1 (by kernel_rfl)
            go_wp2_with fail
            exact hQ.out _ ⟨_, rfl, q1, q2⟩
          intro u4
          simp only [Act.put, List.setIfInBounds_toArray, List.set_cons_zero, List.set_cons_succ]
          apply st_any (fun v x => ∃ b m, v = .slice (some ⟨b, 0, none⟩) 1 1 ∧ Blk x.to b 37 #[.int .i64 m, .int .i64 1, .int .i64 0] ∧ (0 ≤ m ∧ m < 6) ∧ x.free b)
          · rfl
          · exact fun v x y ⟨b, m, e, hk, hm, hf⟩ hl => ⟨b, m, e, hl.blk hf hk, hm, hl.free hf⟩
          · intro x hF Qx hQ'
            have hQ := Lib.hid hQ'; clear hQ'
            obtain ⟨m, rfl, q1, q2⟩ := hF.1 (by kernel_rfl)
            go_wp2_with fail
            exact hQ.out _ _ (below_alloc _ _) ⟨_, m, rfl, Blk.new _ _ _, ⟨q1, q2⟩, x.free_new _ _⟩
          intro u5
          simp only [Act.put, List.setIfInBounds_toArray, List.set_cons_zero, List.set_cons_succ]
          apply st_eff (fun v x => x.done = true ∧ ∃ m : Int, (0 ≤ m ∧ m < 6) ∧ OwnF FGr 37 x.to w.heap.size v (rr.grs ++ [(⟨m, 1, 0⟩ : Gr)]))
          · rfl
          · rfl
          · exact fun j hj => (by cases hj)
          · exact fun v x y ⟨hd, m, hm, ho⟩ hl => ⟨hl.done hd, m, hm, ho.chg (hl.done_chg hd) fun b hb e => (by have := (ho.at_ hb).1; omega)⟩
          · intro x hF hdn Qx hQ'
            have hQ := Lib.hid hQ'; clear hQ'
            obtain ⟨b, m, rfl, hkb, hm, hfb⟩ := hF.1 (by kernel_rfl)
            have oxx := ox.grs.chg (x.before hdn) (fun b hb e => by have := ox.grs.at_ hb; omega)
            refine app_flatB (F := FGr) (v := .slice B rr.grs.length d) rfl (.tmp 73) (.tmp 77) 28 rfl elem_gr ⟨m, 1, 0⟩ rfl oxx rfl hkb rfl (by have := FN.out.grs; omega) (Nat.le_trans zr x.ok.size) ?_
            intro v8 w8 o8 ch8 at8
            refine wpList_nil ?_
            exact hQ.out _ _ ch8 ⟨rfl, m, hm, o8⟩
          intro u6
          simp only [Act.put, List.setIfInBounds_toArray, List.set_cons_zero, List.set_cons_succ]
          refine st_end fun x hF => ?_
          simp only [allF] at hF
          obtain ⟨⟨hdn, m, hm, o7⟩, -⟩ := hF
          obtain ⟨A7, c7, rfl⟩ := o7.form
          simp only [List.length_append, List.length_cons, List.length_nil, Nat.zero_add] at o7
          have hcx : Chg (fun b => b = g ∨ (Value.slice B rr.grs.length d).ownBlock = some b) w5 x.to := x.ok.mono fun b hb e => by
            rcases e with e | e | ⟨_, e⟩
            · exact .inl e
            · rcases x.bw b e with e | e <;> omega
            · exact .inr e
          have hZ := HX5.out.gr (q' := x.q) hcx x.rd o7 ⟨(by show In64 m; unfold In64; omega), (by show In64 1; unfold In64; omega), (by show In64 0; unfold In64; omega)⟩
          have hql : x.q ≤ q + 1 + 8 := x.lim
          have kx6 := blk_chg kx hcx (fun e => by
            rcases e with e | e
            · omega
            · exact rg_blk_ne ox.grs kx (by decide) _ e rfl)
          have kz6 := blk_chg kz hcx (fun e => by
            rcases e with e | e
            · omega
            · exact rg_blk_ne ox.grs kz (by decide) _ e rfl)
          simp only [List.drop]
          have HZ := Lib.hid hZ
          clear hZ
          have hkx := HZ.out.blk
          have ck6 := kx6.cell
          have fk6 := kx6.frozen
          have ck7 := kz6.cell
          have fk7 := kz6.frozen
          have hnx := HZ.out.nx
          go_wp2_with fail
          exact bodyPost_ret (v := .agg #[.slice A rr.keys.length c, .slice A7 (rr.grs.length + 1) c7]) (by simp [results, Try.results59, go_sem, ck7]) rfl (RingX.out (p := p) (HZ.out.up (by omega)) (by omega))
        · have t8 : (v7 == 1) = false := beq_eq_false_iff_ne.2 h71
          have HZ := HX5
          have ck7 := kz.cell
          have fk7 := kz.frozen
          go_wp2_with fail
          exact bodyPost_ret (v := .agg #[_, _]) (by simp [results, Try.results59, go_sem, ck7]) rfl ((HZ.out.up (by omega)).out (by omega))
    · have t0 : decide ((0 : Int) < (n : Int)) = true := decide_eq_true (by omega)
      have cka : wr.cell? ⟨gx, 0, none⟩ = some (.slice A rr.keys.length c) := kx.cell 0
      have ckb : wr.cell? ⟨gx, 1, none⟩ = some (.slice B rr.grs.length d) := kx.cell 1
      go_wp2_with fail
      refine region_stT (N := q + 14) (s := 12) (ia := 11) (ic := 7) (bk := wr.heap.size) (fx := false) (ty := 30) (n := 2) (S := fun _ => False) (pre := []) 14 q [1, 4] [0, 2, 3, 5, 6, 7, 8, 9, 10, 11, 12, 13] (by kernel_rfl) (by kernel_rfl) (by kernel_rfl) rd (Nat.le_refl _) none (fun b hb => by cases hb) (fun h => by cases h) (fun b hb => hb.elim) (fun b hb => by cases hb) (.inl rfl) ?_
      simp only [pick, List.map, List.getD_cons_zero, List.getD_cons_succ]
      repeat (go_big_quiet_step (fail))
      refine wpQuiet_nil ?_
      apply Exists.intro
      apply st_look (fun v => v = .agg #[.slice A rr.keys.length c, .slice B rr.grs.length d])
      · rfl
      · intro x _ Qx hQ'
        have hQ := Lib.hid hQ'; clear hQ'
        have ca := pasts_cell (x := x) cka (by show gx ≠ g; omega) (by show gx ≠ _; omega) (fun h => h)
        have cb := pasts_cell (x := x) ckb (by show gx ≠ g; omega) (by show gx ≠ _; omega) (fun h => h)
        go_wp2_with fail
        exact hQ.out _ rfl
      intro ux
      simp only [Act.put, List.setIfInBounds_toArray, List.set_cons_zero, List.set_cons_succ]
      apply st_pick (fun v => ∃ m : Int, v = .int .i64 m ∧ 0 ≤ m ∧ m < 4)
      · rfl
      · intro x _ hN Qx hQ'
        have hQ := Lib.hid hQ'; clear hQ'
        go_wp2_with fail
        refine (pick_any _ _ _ _ _ _ 4 x.rd (by omega)).mono ?_
        rintro e wy ⟨m, rfl, ⟨_, q1⟩, rdy, hcy⟩
        obtain ⟨q2, q3⟩ := q1 (by omega)
        go_wp2_with fail
        exact hQ.out _ _ rdy hcy ⟨m, rfl, q2, q3⟩
      intro u2
      simp only [Act.put, List.setIfInBounds_toArray, List.set_cons_zero, List.set_cons_succ]
      apply st_look (fun v => ∃ m : Int, v = .int .i64 m ∧ 1 ≤ m ∧ m ≤ 4)
      · rfl
      · intro x hF Qx hQ'
        have hQ := Lib.hid hQ'; clear hQ'
        obtain ⟨m, rfl, q1, q2⟩ := hF.1 (by kernel_rfl)
        go_wp2_with fail
        exact hQ.out _ ⟨_, rfl, by omega, by omega⟩
      intro u3
      simp only [Act.put, List.setIfInBounds_toArray, List.set_cons_zero, List.set_cons_succ]
      apply st_pick (fun v => ∃ m : Int, v = .int .i64 m ∧ 0 ≤ m ∧ m < 2)
      · rfl
      · intro x _ hN Qx hQ'
        have hQ := Lib.hid hQ'; clear hQ'
        go_wp2_with fail
        refine (pick_any _ _ _ _ _ _ 2 x.rd (by omega)).mono ?_
        rintro e wy ⟨m, rfl, ⟨_, q1⟩, rdy, hcy⟩
        obtain ⟨q2, q3⟩ := q1 (by omega)
        go_wp2_with fail
        exact hQ.out _ _ rdy hcy ⟨m, rfl, q2, q3⟩
      intro u5
      simp only [Act.put, List.setIfInBounds_toArray, List.set_cons_zero, List.set_cons_succ]
      apply st_look (fun v => ∃ b, v = .bool b)
      · rfl
      · intro x hF Qx hQ'
        have hQ := Lib.hid hQ'; clear hQ'
        obtain ⟨m, rfl, q1, q2⟩ := hF.1 (by kernel_rfl)
        go_wp2_with fail
        exact hQ.out _ ⟨_, rfl⟩
      intro u6
      simp only [Act.put, List.setIfInBounds_toArray, List.set_cons_zero, List.set_cons_succ]
      apply st_call (fun v x => RgCall w.heap.size v x)
      · rfl
      · rfl
      · exact fun v x y h hl => h.le hl
      · intro x hF Qx hQ'
        have hQ := Lib.hid hQ'; clear hQ'
        obtain ⟨b6, rfl⟩ := hF.1 (by kernel_rfl)
        obtain ⟨m3, rfl, i1, i2⟩ := hF.2.2.1 (by kernel_rfl)
        cases hF.2.2.2.2.1 (by kernel_rfl)
        clear hF
        obtain ⟨r1, ok1, hr1⟩ := RLet_total rr m3 b6
        have ox1 := x.rg ox (by omega) (fun b hb => by have := (ox.keys.at_ hb).2; omega) (fun b hb => by have := (ox.grs.at_ hb).2; omega) (fun _ h => h)
        have fn1 := let_fine hr1 FN.out.good (by unfold In64; omega)
        obtain ⟨rs1, rs2⟩ := ox1.reads FN.out.good
        go_wp2_with fail
        refine (specRingLet_any rr m3 b6 _ _ x.to _ _ (Nat.le_refl _) rs1 rs2 (FN.out.sz (by omega)).1 (FN.out.sz (by omega)).2 r1 ok1 hr1).mono ?_
        rintro e wy ⟨vc, vd, rfl, oy, by5⟩
        go_wp2_with fail
        exact hQ.out _ _ by5 (RgCall.new x by5 oy fn1 zr (by omega) _)
      intro u7
      simp only [Act.put, List.setIfInBounds_toArray, List.set_cons_zero, List.set_cons_succ]
      apply st_see (fun v u => v = u ∧ ∃ vc vd ok1, RgTup u vc vd ok1)
      · rfl
      · intro x hF Qx hQ'
        have hQ := Lib.hid hQ'; clear hQ'
        obtain ⟨⟨vc, vd, r1, ok1, rfl, ho, _⟩, hu⟩ := hF.1 (by kernel_rfl)
        clear hF
        go_wp2_with fail
        exact hQ.out _ _ hu ⟨rfl, _, _, _, RgTup.of ho⟩
      intro u8
      simp only [Act.put, List.setIfInBounds_toArray, List.set_cons_zero, List.set_cons_succ]
      apply st_see (fun v u => ∃ vc vd ok1, RgTup u vc vd ok1 ∧ v = .agg #[vc, vd])
      · rfl
      · intro x hF Qx hQ'
        have hQ := Lib.hid hQ'; clear hQ'
        obtain ⟨u, hu, rfl, vc, vd, ok1, ht⟩ := hF.1 (by kernel_rfl)
        have e := ht.eq
        subst e
        clear hF
        go_wp2_with fail
        exact hQ.out _ _ hu ⟨_, _, _, ht, rfl⟩
      intro u9
      simp only [Act.put, List.setIfInBounds_toArray, List.set_cons_zero, List.set_cons_succ]
      apply st_see (fun v u => ∃ vc vd ok1, RgTup u vc vd ok1 ∧ v = .bool ok1)
      · rfl
      · intro x hF Qx hQ'
        have hQ := Lib.hid hQ'; clear hQ'
        obtain ⟨u, hu, rfl, vc, vd, ok1, ht⟩ := hF.2.1 (by kernel_rfl)
        have e := ht.eq
        subst e
        clear hF
        go_wp2_with fail
        exact hQ.out _ _ hu ⟨_, _, _, ht, rfl⟩
      intro u10
      simp only [Act.put, List.setIfInBounds_toArray, List.set_cons_zero, List.set_cons_succ]
      apply st_alloc (cs := #[.slice none 0 0, .slice none 0 0])
      · rfl
      · rfl
      · decide
      · exact Nat.le_trans (by obtain ⟨A, c, _, _, _, hg⟩ := rd; exact hg) (Nat.le_of_lt (Nat.lt_of_lt_of_le hrg zr))
      · rfl
      · intro x Qx hQ'
        have hQ := Lib.hid hQ'; clear hQ'
        go_wp2_with fail
        exact hQ.out
      intro u11
      simp only [Act.put, List.setIfInBounds_toArray, List.set_cons_zero, List.set_cons_succ]
      apply st_store (fun x => RgFull x)
      · rfl
      · exact fun j hj => (by cases hj)
      · exact fun x y h hl => h.le hl
      · intro x hF hdn Qx hQ'
        have hQ := Lib.hid hQ'; clear hQ'
        obtain ⟨b, rfl, hbb, hbx⟩ := hF.1 (by kernel_rfl)
        obtain ⟨u, hu, vc, vd, ok1, ht, rfl⟩ := hF.2.2.1 (by kernel_rfl)
        clear hF
        have e := ht.eq
        subst e
        obtain ⟨A1, m1, c1, rfl⟩ := ht.a
        obtain ⟨B1, k1, d1, rfl⟩ := ht.b
        obtain ⟨hbg, hbh, cs, hcs, hkb⟩ := x.bx _ hbx
        obtain ⟨ca, cb, rfl⟩ := pair_of hcs
        have ckb := hkb.cell
        have fkb := hkb.frozen
        go_wp2_with fail
        exact hQ.out _ hbx _ (chg_two _ _ _ _) _ rfl ((hkb.set_ 0 _).set_ 1 _) ⟨rfl, _, _, _, _, hbx, hu, (hkb.set_ 0 _).set_ 1 _⟩
      · rfl
      simp only [Act.put, List.setIfInBounds_toArray, List.set_cons_zero, List.set_cons_succ]
      apply st_see (fun v u => ∃ vc vd ok1, RgTup u vc vd ok1 ∧ v = .bool ok1)
      · rfl
      · intro x hF Qx hQ'
        have hQ := Lib.hid hQ'; clear hQ'
        obtain ⟨u, hu, vc, vd, ok1, ht, rfl⟩ := hF.2.2.1 (by kernel_rfl)
        clear hF
        go_wp2_with fail
        exact hQ.out _ _ hu ⟨_, _, _, ht, rfl⟩
      intro u13
      simp only [Act.put, List.setIfInBounds_toArray, List.set_cons_zero, List.set_cons_succ]
      refine st_end fun x hF => ?_
      simp only [allF] at hF
      obtain ⟨⟨u, hu, vc, vd, ok1, ht, rfl⟩, ⟨hdn, gy, vc', vd', ok1', hgy, hu2, ky⟩, ⟨gy', rfl, hgy0, hgy'⟩, -, -, -, ⟨⟨vc2, vd2, r1, ok2, rfl, oy, -, fy⟩, hu3⟩, -, -, -, -, -, -⟩ := hF
      have e := ht.eq
      subst e
      rw [hu] at hu2 hu3
      cases hu2; cases hu3
      rw [hgy] at hgy'
      cases hgy'
      have hY : RingY w lo hi g l w.heap.size gx gy x.q rr r1 _ _ vc vd ok1 x.to := ⟨HX.out.on x.rd x.ok (fun b hb hs => by
          rcases hs with h | h | h
          · exact .inl h
          · rw [hgy] at h; cases h; omega
          · exact h.2.elim) (fun b hb hs => by
          have := ox.keys.at_ hb
          rcases hs with h | h | h
          · omega
          · rw [hgy] at h; cases h; omega
          · exact h.2) (fun b hb hs => by
          have := ox.grs.at_ hb
          rcases hs with h | h | h
          · omega
          · rw [hgy] at h; cases h; omega
          · exact h.2), ky, oy, fy, by omega⟩
      have hql : x.q ≤ q + 14 := x.lim
      simp only [List.drop]
      clear hu ht hdn ky oy fy hgy hgy0 HX rd kz chx kx ox ckx zr zx cka ckb
      revert hY hql
      generalize x.to = w4
      generalize x.q = q4
      clear x
      intro hY hq4
      have HY := Lib.hid hY
      go_wp2_with fail
      refine (pick_any _ _ _ _ _ _ 4 hY.x.rd (by omega)).mono ?_
      rintro e w5 ⟨v7, rfl, ⟨_, p7⟩, rd5, hc5⟩
      obtain ⟨p5, p6⟩ := p7 (by omega)
      clear p7
      replace hY := hY.pick rd5 hc5
      replace HY := Lib.hid hY
      clear rd5 hc5
      by_cases h70 : v7 = 0
      · have t7 : (v7 == 0) = true := beq_iff_eq.2 h70
        obtain ⟨hx4, ky, oy, fy, ny⟩ := hY
        have cka : w5.cell? ⟨gx, 0, none⟩ = some (.slice A rr.keys.length c) := hx4.blk.cell 0
        have ckb : w5.cell? ⟨gx, 1, none⟩ = some (.slice B rr.grs.length d) := hx4.blk.cell 1
        have ox := hx4.own
        have rd5 := hx4.rd
        have ng := hx4.ng
        have chx := hx4.chg
        have zr := chx.size
        have hgh : hi ≤ gy := by
          obtain ⟨A', c', _, _, _, hg⟩ := rd5
          omega
        have nk1 := rg_blk_ne ox.keys ky (by decide)
        have nk2 := rg_blk_ne ox.grs ky (by decide)
        go_wp2_with fail
        refine region_stT (N := q4 + 1 + 10) (s := 8) (ia := 99) (ic := 4) (bk := gy) (fx := true) (ty := 30) (n := 2) (S := fun _ => False) (pre := []) 10 (q4 + 1) [1] [0, 2, 3, 4, 5, 6, 7, 8, 9] (by kernel_rfl) (by kernel_rfl) (by kernel_rfl) rd5 (Nat.le_refl _) (some gy) (fun b hb => by cases hb; rfl) (fun _ => rfl) (fun b hb => hb.elim) (fun b hb => by cases hb; exact ⟨by omega, hgh, _, rfl, ky⟩) (.inr (by decide)) ?_
        simp only [pick, List.map, List.getD_cons_zero, List.getD_cons_succ]
        repeat (go_big_quiet_step (fail))
        refine wpQuiet_nil ?_
        apply Exists.intro
        apply st_look (fun v => v = .agg #[.slice A rr.keys.length c, .slice B rr.grs.length d])
        · rfl
        · intro x _ Qx hQ'
          have hQ := Lib.hid hQ'; clear hQ'
          have ca := pasts_cell (x := x) cka (by show gx ≠ g; omega) (by show gx ≠ _; omega) (fun h => h)
          have cb := pasts_cell (x := x) ckb (by show gx ≠ g; omega) (by show gx ≠ _; omega) (fun h => h)
          go_wp2_with fail
          exact hQ.out _ rfl
        intro ux
        simp only [Act.put, List.setIfInBounds_toArray, List.set_cons_zero, List.set_cons_succ]
        apply st_pick (fun v => ∃ m : Int, v = .int .i64 m ∧ 0 ≤ m ∧ m < 30)
        · rfl
        · intro x _ hN Qx hQ'
          have hQ := Lib.hid hQ'; clear hQ'
          go_wp2_with fail
          refine (pick_any _ _ _ _ _ _ 30 x.rd (by omega)).mono ?_
          rintro e wy ⟨m, rfl, ⟨_, q1⟩, rdy, hcy⟩
          obtain ⟨q2, q3⟩ := q1 (by omega)
          go_wp2_with fail
          exact hQ.out _ _ rdy hcy ⟨m, rfl, q2, q3⟩
        intro u2
        simp only [Act.put, List.setIfInBounds_toArray, List.set_cons_zero, List.set_cons_succ]
        apply st_look (fun v => ∃ m : Int, v = .int .i64 m ∧ 1 ≤ m ∧ m ≤ 30)
        · rfl
        · intro x hF Qx hQ'
          have hQ := Lib.hid hQ'; clear hQ'
          obtain ⟨m, rfl, q1, q2⟩ := hF.1 (by kernel_rfl)
          go_wp2_with fail
          exact hQ.out _ ⟨_, rfl, by omega, by omega⟩
        intro u3
        simp only [Act.put, List.setIfInBounds_toArray, List.set_cons_zero, List.set_cons_succ]
        apply st_call (fun v x => RgCall w.heap.size v x)
        · rfl
        · rfl
        · exact fun v x y h hl => h.le hl
        · intro x hF Qx hQ'
          have hQ := Lib.hid hQ'; clear hQ'
          obtain ⟨m3, rfl, i1, i2⟩ := hF.1 (by kernel_rfl)
          cases hF.2.2.1 (by kernel_rfl)
          clear hF
          obtain ⟨r1, ok1, hr1⟩ := RTurn_total rr m3
          have ox1 := x.rg ox (by omega) nk1 nk2 (fun _ h => h)
          have fn1 := turn_fine hr1 FN.out.good (by unfold In64; omega)
          obtain ⟨rs1, rs2⟩ := ox1.reads FN.out.good
          go_wp2_with fail
          refine (specRingTurn_any rr m3 _ _ x.to _ _ (Nat.le_refl _) rs1 rs2 (FN.out.sz (by omega)).1 (FN.out.sz (by omega)).2 r1 ok1 hr1).mono ?_
          rintro e wy ⟨vc, vd, rfl, oy, by5⟩
          go_wp2_with fail
          exact hQ.out _ _ by5 (RgCall.new x by5 oy fn1 zr (by omega) _)
        intro u7
        simp only [Act.put, List.setIfInBounds_toArray, List.set_cons_zero, List.set_cons_succ]
        apply st_see (fun v u => v = u ∧ ∃ vc vd ok1, RgTup u vc vd ok1)
        · rfl
        · intro x hF Qx hQ'
          have hQ := Lib.hid hQ'; clear hQ'
          obtain ⟨⟨vc, vd, r1, ok1, rfl, ho, _⟩, hu⟩ := hF.1 (by kernel_rfl)
          clear hF
          go_wp2_with fail
          exact hQ.out _ _ hu ⟨rfl, _, _, _, RgTup.of ho⟩
        intro u8
        simp only [Act.put, List.setIfInBounds_toArray, List.set_cons_zero, List.set_cons_succ]
        apply st_see (fun v u => ∃ vc vd ok1, RgTup u vc vd ok1 ∧ v = .agg #[vc, vd])
        · rfl
        · intro x hF Qx hQ'
          have hQ := Lib.hid hQ'; clear hQ'
          obtain ⟨u, hu, rfl, vc, vd, ok1, ht⟩ := hF.1 (by kernel_rfl)
          have e := ht.eq
          subst e
          clear hF
          go_wp2_with fail
          exact hQ.out _ _ hu ⟨_, _, _, ht, rfl⟩
        intro u9
        simp only [Act.put, List.setIfInBounds_toArray, List.set_cons_zero, List.set_cons_succ]
        apply st_see (fun v u => ∃ vc vd ok1, RgTup u vc vd ok1 ∧ v = .bool ok1)
        · rfl
        · intro x hF Qx hQ'
          have hQ := Lib.hid hQ'; clear hQ'
          obtain ⟨u, hu, rfl, vc, vd, ok1, ht⟩ := hF.2.1 (by kernel_rfl)
          have e := ht.eq
          subst e
          clear hF
          go_wp2_with fail
          exact hQ.out _ _ hu ⟨_, _, _, ht, rfl⟩
        intro u10
        simp only [Act.put, List.setIfInBounds_toArray, List.set_cons_zero, List.set_cons_succ]
        apply st_store (fun x => RgFull x)
        · rfl
        · exact fun j hj => (by cases hj)
        · exact fun x y h hl => h.le hl
        · intro x hF hdn Qx hQ'
          have hQ := Lib.hid hQ'; clear hQ'
          have hbx := x.bf rfl
          obtain ⟨u, hu, vc, vd, ok1, ht, rfl⟩ := hF.2.1 (by kernel_rfl)
          clear hF
          have e := ht.eq
          subst e
          obtain ⟨A1, m1, c1, rfl⟩ := ht.a
          obtain ⟨B1, k1, d1, rfl⟩ := ht.b
          obtain ⟨hbg, hbh, cs, hcs, hkb⟩ := x.bx _ hbx
          obtain ⟨ca, cb, rfl⟩ := pair_of hcs
          have ckb := hkb.cell
          have fkb := hkb.frozen
          go_wp2_with fail
          exact hQ.out _ hbx _ (chg_two _ _ _ _) _ rfl ((hkb.set_ 0 _).set_ 1 _) ⟨rfl, _, _, _, _, hbx, hu, (hkb.set_ 0 _).set_ 1 _⟩
        · rfl
        simp only [Act.put, List.setIfInBounds_toArray, List.set_cons_zero, List.set_cons_succ]
        apply st_see (fun v u => ∃ vc vd ok1, RgTup u vc vd ok1 ∧ v = .bool ok1)
        · rfl
        · intro x hF Qx hQ'
          have hQ := Lib.hid hQ'; clear hQ'
          obtain ⟨u, hu, vc, vd, ok1, ht, rfl⟩ := hF.2.1 (by kernel_rfl)
          clear hF
          go_wp2_with fail
          exact hQ.out _ _ hu ⟨_, _, _, ht, rfl⟩
        intro u13
        simp only [Act.put, List.setIfInBounds_toArray, List.set_cons_zero, List.set_cons_succ]
        refine st_end fun x hF => ?_
        simp only [allF] at hF
        obtain ⟨⟨u, hu, vc', vd', ok1', ht, rfl⟩, ⟨hdn, gy', vc2, vd2, ok2, hgy, hu2, ky'⟩, -, -, -, ⟨⟨vc3, vd3, r3, ok3, rfl, oy', -, fy'⟩, hu3⟩, -⟩ := hF
        have e := ht.eq
        subst e
        rw [hu] at hu2 hu3
        cases hu2; cases hu3
        have hgy2 := x.bf rfl
        rw [hgy] at hgy2
        cases hgy2
        have hY : RingY w lo hi g l w.heap.size gx gy x.q rr r3 _ _ vc' vd' ok1' x.to := ⟨hx4.on x.rd x.ok (fun b hb hs => by
            rcases hs with h | h | h
            · exact .inl h
            · rw [hgy] at h; cases h; omega
            · exact h.2.elim) (fun b hb hs => by
            have h1 := (ox.keys.at_ hb).1
            have h2 := nk1 b hb
            rcases hs with h | h | h
            · omega
            · rw [hgy] at h; cases h; exact h2 rfl
            · exact h.2) (fun b hb hs => by
            have h1 := (ox.grs.at_ hb).1
            have h2 := nk2 b hb
            rcases hs with h | h | h
            · omega
            · rw [hgy] at h; cases h; exact h2 rfl
            · exact h.2), ky', oy', fy', ny⟩
        have hql : x.q ≤ q4 + 1 + 10 := x.lim
        simp only [List.drop]
        clear hu ht hdn ky' oy' fy' hgy ky oy fy cka ckb ox rd5 nk1 nk2 hx4 HY
        revert hY hql
        generalize x.to = w6
        generalize x.q = q6
        clear x
        intro hY hq6
        have HY := Lib.hid hY
        obtain ⟨hx4, ky, oy, fy, ny⟩ := hY
        obtain ⟨A1, c1, rfl⟩ := oy.keys.form
        obtain ⟨B1, d1, rfl⟩ := oy.grs.form
        have cky := ky.cell
        have ckx := hx4.blk.cell
        have fkx := hx4.blk.frozen
        have nx := hx4.nx
        cases ok1' with
        | true =>
          go_wp2_with fail
          go_roundw
          case rel =>
            refine ⟨n - 1, _, _, _, _, by go_num, by omega, ?_, HY.out.into⟩
            omega
          case measure => simp [intOf]; omega
        | false =>
          go_wp2_with fail
          go_roundw
          case rel =>
            refine ⟨n - 1, _, _, _, _, by go_num, by omega, ?_, HY.out.x⟩
            omega
          case measure => simp [intOf]; omega
      · have t7 : (v7 == 0) = false := beq_eq_false_iff_ne.2 h70
        by_cases h71 : v7 = 1
        · have t8 : (v7 == 1) = true := beq_iff_eq.2 h71
          obtain ⟨hx4, ky, oy, fy, ny⟩ := hY
          have cka : w5.cell? ⟨gx, 0, none⟩ = some (.slice A rr.keys.length c) := hx4.blk.cell 0
          have ckb : w5.cell? ⟨gx, 1, none⟩ = some (.slice B rr.grs.length d) := hx4.blk.cell 1
          have ox := hx4.own
          have rd5 := hx4.rd
          have ng := hx4.ng
          have chx := hx4.chg
          have zr := chx.size
          have hgh : hi ≤ gy := by
            obtain ⟨A', c', _, _, _, hg⟩ := rd5
            omega
          have nk1 := rg_blk_ne ox.keys ky (by decide)
          have nk2 := rg_blk_ne ox.grs ky (by decide)
          go_wp2_with fail
          refine region_stT (N := q4 + 1 + 13) (s := 11) (ia := 99) (ic := 7) (bk := gy) (fx := true) (ty := 30) (n := 2) (S := fun _ => False) (pre := []) 13 (q4 + 1) [1, 4] [0, 2, 3, 5, 6, 7, 8, 9, 10, 11, 12] (by kernel_rfl) (by kernel_rfl) (by kernel_rfl) rd5 (Nat.le_refl _) (some gy) (fun b hb => by cases hb; rfl) (fun _ => rfl) (fun b hb => hb.elim) (fun b hb => by cases hb; exact ⟨by omega, hgh, _, rfl, ky⟩) (.inr (by decide)) ?_
          simp only [pick, List.map, List.getD_cons_zero, List.getD_cons_succ]
          repeat (go_big_quiet_step (fail))
          refine wpQuiet_nil ?_
          apply Exists.intro
          apply st_look (fun v => v = .agg #[.slice A rr.keys.length c, .slice B rr.grs.length d])
          · rfl
          · intro x _ Qx hQ'
            have hQ := Lib.hid hQ'; clear hQ'
            have ca := pasts_cell (x := x) cka (by show gx ≠ g; omega) (by show gx ≠ _; omega) (fun h => h)
            have cb := pasts_cell (x := x) ckb (by show gx ≠ g; omega) (by show gx ≠ _; omega) (fun h => h)
            go_wp2_with fail
            exact hQ.out _ rfl
          intro ux
          simp only [Act.put, List.setIfInBounds_toArray, List.set_cons_zero, List.set_cons_succ]
          apply st_pick (fun v => ∃ m : Int, v = .int .i64 m ∧ 0 ≤ m ∧ m < 4)
          · rfl
          · intro x _ hN Qx hQ'
            have hQ := Lib.hid hQ'; clear hQ'
            go_wp2_with fail
            refine (pick_any _ _ _ _ _ _ 4 x.rd (by omega)).mono ?_
            rintro e wy ⟨m, rfl, ⟨_, q1⟩, rdy, hcy⟩
            obtain ⟨q2, q3⟩ := q1 (by omega)
            go_wp2_with fail
            exact hQ.out _ _ rdy hcy ⟨m, rfl, q2, q3⟩
          intro u2
          simp only [Act.put, List.setIfInBounds_toArray, List.set_cons_zero, List.set_cons_succ]
          apply st_look (fun v => ∃ m : Int, v = .int .i64 m ∧ 1 ≤ m ∧ m ≤ 4)
          · rfl
          · intro x hF Qx hQ'
            have hQ := Lib.hid hQ'; clear hQ'
            obtain ⟨m, rfl, q1, q2⟩ := hF.1 (by kernel_rfl)
            go_wp2_with fail
            exact hQ.out _ ⟨_, rfl, by omega, by omega⟩
          intro u3
          simp only [Act.put, List.setIfInBounds_toArray, List.set_cons_zero, List.set_cons_succ]
          apply st_pick (fun v => ∃ m : Int, v = .int .i64 m ∧ 0 ≤ m ∧ m < 30)
          · rfl
          · intro x _ hN Qx hQ'
            have hQ := Lib.hid hQ'; clear hQ'
            go_wp2_with fail
            refine (pick_any _ _ _ _ _ _ 30 x.rd (by omega)).mono ?_
            rintro e wy ⟨m, rfl, ⟨_, q1⟩, rdy, hcy⟩
            obtain ⟨q2, q3⟩ := q1 (by omega)
            go_wp2_with fail
            exact hQ.out _ _ rdy hcy ⟨m, rfl, q2, q3⟩
          intro u5
          simp only [Act.put, List.setIfInBounds_toArray, List.set_cons_zero, List.set_cons_succ]
          apply st_look (fun v => ∃ m : Int, v = .int .i64 m ∧ 1 ≤ m ∧ m ≤ 30)
          · rfl
          · intro x hF Qx hQ'
            have hQ := Lib.hid hQ'; clear hQ'
            obtain ⟨m, rfl, q1, q2⟩ := hF.1 (by kernel_rfl)
            go_wp2_with fail
            exact hQ.out _ ⟨_, rfl, by omega, by omega⟩
          intro u6
          simp only [Act.put, List.setIfInBounds_toArray, List.set_cons_zero, List.set_cons_succ]
          apply st_call (fun v x => RgCall w.heap.size v x)
          · rfl
          · rfl
          · exact fun v x y h hl => h.le hl
          · intro x hF Qx hQ'
            have hQ := Lib.hid hQ'; clear hQ'
            obtain ⟨m6, rfl, i1, i2⟩ := hF.1 (by kernel_rfl)
            obtain ⟨m3, rfl, i3, i4⟩ := hF.2.2.1 (by kernel_rfl)
            cases hF.2.2.2.2.1 (by kernel_rfl)
            clear hF
            obtain ⟨r1, ok1, hr1⟩ := RShut_total rr m3 m6
            have ox1 := x.rg ox (by omega) nk1 nk2 (fun _ h => h)
            have fn1 := shut_fine hr1 FN.out.good (by unfold In64; omega)
            obtain ⟨rs1, rs2⟩ := ox1.reads FN.out.good
            go_wp2_with fail
            refine (specRingShut_any rr m3 m6 _ _ x.to _ _ (Nat.le_refl _) rs1 rs2 (FN.out.sz (by omega)).1 (FN.out.sz (by omega)).2 r1 ok1 hr1).mono ?_
            rintro e wy ⟨vc, vd, rfl, oy, by5⟩
            go_wp2_with fail
            exact hQ.out _ _ by5 (RgCall.new x by5 oy fn1 zr (by omega) _)
          intro u7
          simp only [Act.put, List.setIfInBounds_toArray, List.set_cons_zero, List.set_cons_succ]
          apply st_see (fun v u => v = u ∧ ∃ vc vd ok1, RgTup u vc vd ok1)
          · rfl
          · intro x hF Qx hQ'
            have hQ := Lib.hid hQ'; clear hQ'
            obtain ⟨⟨vc, vd, r1, ok1, rfl, ho, _⟩, hu⟩ := hF.1 (by kernel_rfl)
            clear hF
            go_wp2_with fail
            exact hQ.out _ _ hu ⟨rfl, _, _, _, RgTup.of ho⟩
          intro u8
          simp only [Act.put, List.setIfInBounds_toArray, List.set_cons_zero, List.set_cons_succ]
          apply st_see (fun v u => ∃ vc vd ok1, RgTup u vc vd ok1 ∧ v = .agg #[vc, vd])
          · rfl
          · intro x hF Qx hQ'
            have hQ := Lib.hid hQ'; clear hQ'
            obtain ⟨u, hu, rfl, vc, vd, ok1, ht⟩ := hF.1 (by kernel_rfl)
            have e := ht.eq
            subst e
            clear hF
            go_wp2_with fail
            exact hQ.out _ _ hu ⟨_, _, _, ht, rfl⟩
          intro u9
          simp only [Act.put, List.setIfInBounds_toArray, List.set_cons_zero, List.set_cons_succ]
          apply st_see (fun v u => ∃ vc vd ok1, RgTup u vc vd ok1 ∧ v = .bool ok1)
          · rfl
          · intro x hF Qx hQ'
            have hQ := Lib.hid hQ'; clear hQ'
            obtain ⟨u, hu, rfl, vc, vd, ok1, ht⟩ := hF.2.1 (by kernel_rfl)
            have e := ht.eq
            subst e
            clear hF
            go_wp2_with fail
            exact hQ.out _ _ hu ⟨_, _, _, ht, rfl⟩
          intro u10
          simp only [Act.put, List.setIfInBounds_toArray, List.set_cons_zero, List.set_cons_succ]
          apply st_store (fun x => RgFull x)
          · rfl
          · exact fun j hj => (by cases hj)
          · exact fun x y h hl => h.le hl
          · intro x hF hdn Qx hQ'
            have hQ := Lib.hid hQ'; clear hQ'
            have hbx := x.bf rfl
            obtain ⟨u, hu, vc, vd, ok1, ht, rfl⟩ := hF.2.1 (by kernel_rfl)
            clear hF
            have e := ht.eq
            subst e
            obtain ⟨A1, m1, c1, rfl⟩ := ht.a
            obtain ⟨B1, k1, d1, rfl⟩ := ht.b
            obtain ⟨hbg, hbh, cs, hcs, hkb⟩ := x.bx _ hbx
            obtain ⟨ca, cb, rfl⟩ := pair_of hcs
            have ckb := hkb.cell
            have fkb := hkb.frozen
            go_wp2_with fail
            exact hQ.out _ hbx _ (chg_two _ _ _ _) _ rfl ((hkb.set_ 0 _).set_ 1 _) ⟨rfl, _, _, _, _, hbx, hu, (hkb.set_ 0 _).set_ 1 _⟩
          · rfl
          simp only [Act.put, List.setIfInBounds_toArray, List.set_cons_zero, List.set_cons_succ]
          apply st_see (fun v u => ∃ vc vd ok1, RgTup u vc vd ok1 ∧ v = .bool ok1)
          · rfl
          · intro x hF Qx hQ'
            have hQ := Lib.hid hQ'; clear hQ'
            obtain ⟨u, hu, vc, vd, ok1, ht, rfl⟩ := hF.2.1 (by kernel_rfl)
            clear hF
            go_wp2_with fail
            exact hQ.out _ _ hu ⟨_, _, _, ht, rfl⟩
          intro u13
          simp only [Act.put, List.setIfInBounds_toArray, List.set_cons_zero, List.set_cons_succ]
          refine st_end fun x hF => ?_
          simp only [allF] at hF
          obtain ⟨⟨u, hu, vc', vd', ok1', ht, rfl⟩, ⟨hdn, gy', vc2, vd2, ok2, hgy, hu2, ky'⟩, -, -, -, ⟨⟨vc3, vd3, r3, ok3, rfl, oy', -, fy'⟩, hu3⟩, -⟩ := hF
          have e := ht.eq
          subst e
          rw [hu] at hu2 hu3
          cases hu2; cases hu3
          have hgy2 := x.bf rfl
          rw [hgy] at hgy2
          cases hgy2
          have hY : RingY w lo hi g l w.heap.size gx gy x.q rr r3 _ _ vc' vd' ok1' x.to := ⟨hx4.on x.rd x.ok (fun b hb hs => by
              rcases hs with h | h | h
              · exact .inl h
              · rw [hgy] at h; cases h; omega
              · exact h.2.elim) (fun b hb hs => by
              have h1 := (ox.keys.at_ hb).1
              have h2 := nk1 b hb
              rcases hs with h | h | h
              · omega
              · rw [hgy] at h; cases h; exact h2 rfl
              · exact h.2) (fun b hb hs => by
              have h1 := (ox.grs.at_ hb).1
              have h2 := nk2 b hb
              rcases hs with h | h | h
              · omega
              · rw [hgy] at h; cases h; exact h2 rfl
              · exact h.2), ky', oy', fy', ny⟩
          have hql : x.q ≤ q4 + 1 + 13 := x.lim
          simp only [List.drop]
          clear hu ht hdn ky' oy' fy' hgy ky oy fy cka ckb ox rd5 nk1 nk2 hx4 HY
          revert hY hql
          generalize x.to = w6
          generalize x.q = q6
          clear x
          intro hY hq6
          have HY := Lib.hid hY
          obtain ⟨hx4, ky, oy, fy, ny⟩ := hY
          obtain ⟨A1, c1, rfl⟩ := oy.keys.form
          obtain ⟨B1, d1, rfl⟩ := oy.grs.form
          have cky := ky.cell
          have ckx := hx4.blk.cell
          have fkx := hx4.blk.frozen
          have nx := hx4.nx
          cases ok1' with
          | true =>
            go_wp2_with fail
            go_roundw
            case rel =>
              refine ⟨n - 1, _, _, _, _, by go_num, by omega, ?_, HY.out.into⟩
              omega
            case measure => simp [intOf]; omega
          | false =>
            go_wp2_with fail
            go_roundw
            case rel =>
              refine ⟨n - 1, _, _, _, _, by go_num, by omega, ?_, HY.out.x⟩
              omega
            case measure => simp [intOf]; omega
        · have t8 : (v7 == 1) = false := beq_eq_false_iff_ne.2 h71
          obtain ⟨hx4, ky, oy, fy, ny⟩ := hY
          obtain ⟨A1, c1, rfl⟩ := oy.keys.form
          obtain ⟨B1, d1, rfl⟩ := oy.grs.form
          have cky := ky.cell
          have ckx := hx4.blk.cell
          have fkx := hx4.blk.frozen
          have nx := hx4.nx
          cases ok1 with
          | true =>
            go_wp2_with fail
            go_roundw
            case rel =>
              refine ⟨n - 1, _, _, _, _, by go_num, by omega, ?_, HY.out.into⟩
              omega
            case measure => simp [intOf]; omega
          | false =>
            go_wp2_with fail
            go_roundw
            case rel =>
              refine ⟨n - 1, _, _, _, _, by go_num, by omega, ?_, HY.out.x⟩
              omega
            case measure => simp [intOf]; omega
  all_goals sorry
end Go.Proofs.Ytdbeclnoaeiaeaa
