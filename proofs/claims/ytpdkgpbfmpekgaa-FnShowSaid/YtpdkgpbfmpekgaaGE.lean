/- EItem, EPack, EInt, EListed, ESnap, EHead, ESto. -/
import Derived.Test.YtpdkgpbfmpekgaaSt
import Derived.Test.YtpdkgpbfmpekgaaMkI



/- The helpers of the exact laws for Item. -/
namespace Go.Proofs.Ytpdkgpbfmpekgaa
open Go.RowKit

end Go.Proofs.Ytpdkgpbfmpekgaa




/- The helpers of the exact laws for Pack. -/
namespace Go.Proofs.Ytpdkgpbfmpekgaa
open Go.RowKit

end Go.Proofs.Ytpdkgpbfmpekgaa




/- The helpers of the exact laws for rows of ints. -/
namespace Go.Proofs.Ytpdkgpbfmpekgaa
open Go.RowKit

end Go.Proofs.Ytpdkgpbfmpekgaa




/- The helpers of the exact laws for Listed. -/
namespace Go.Proofs.Ytpdkgpbfmpekgaa
open Go.RowKit

end Go.Proofs.Ytpdkgpbfmpekgaa




/- The helpers of the exact laws for Snap. -/
namespace Go.Proofs.Ytpdkgpbfmpekgaa
open Go.RowKit

end Go.Proofs.Ytpdkgpbfmpekgaa




/- The helpers of the exact laws for Head. -/
namespace Go.Proofs.Ytpdkgpbfmpekgaa
open Go.RowKit

end Go.Proofs.Ytpdkgpbfmpekgaa




/- The helpers of the exact laws for stores: size, copy, sameness. -/
namespace Go.Proofs.Ytpdkgpbfmpekgaa
open Go.RowKit

/-- A store, read. -/
structure RStoL (w : World) (lo hi : Nat) (s : Sto) (va vb vc : Value) : Prop where
  pk : RPksL w lo hi s.pk [va]
  sn : RSnsL w lo hi s.sn [vb]
  lg : RHdsL w lo hi s.lg [vc]
theorem RStoL.below {w w' : World} {lo hi B : Nat} {s : Sto} {va vb vc : Value} (h : RStoL w lo hi s va vb vc) (hb : Below B w w') (hB : hi ≤ B) : RStoL w' lo hi s va vb vc := ⟨RPksL.loc.below h.pk hb hB, RSnsL.loc.below h.sn hb hB, RHdsL.loc.below h.lg hb hB⟩
theorem RStoL.wide {w : World} {lo hi lo' hi' : Nat} {s : Sto} {va vb vc : Value} (h : RStoL w lo hi s va vb vc) (h1 : lo' ≤ lo) (h2 : hi ≤ hi') : RStoL w lo' hi' s va vb vc := ⟨RPksL.loc.wide h.pk h1 h2, RSnsL.loc.wide h.sn h1 h2, RHdsL.loc.wide h.lg h1 h2⟩
/-- A store that is owned: the three rows lie in blocks of different types. -/
structure OSto (w : World) (lo hi : Nat) (s : Sto) (va vb vc : Value) : Prop where
  pk : OPks w lo hi s.pk [va]
  sn : OSns w lo hi s.sn [vb]
  lg : OHds w lo hi s.lg [vc]
theorem OSto.go {w w' : World} {lo hi lo' hi' : Nat} {s : Sto} {va vb vc : Value} (h : OSto w lo hi s va vb vc) (hs : ∀ b, lo ≤ b → b < hi → w'.heap[b]? = w.heap[b]?) (h1 : lo' ≤ lo) (h2 : hi ≤ hi') : OSto w' lo' hi' s va vb vc :=
  ⟨OPks.tloc.loc.go hs h1 h2 h.pk, OSns.tloc.loc.go hs h1 h2 h.sn, OHds.tloc.loc.go hs h1 h2 h.lg⟩
theorem OSto.below {w w' : World} {lo hi B : Nat} {s : Sto} {va vb vc : Value} (h : OSto w lo hi s va vb vc) (hb : Below B w w') (hB : hi ≤ B) : OSto w' lo hi s va vb vc := h.go (fun b _ h2 => hb.block b (by omega)) (Nat.le_refl _) (Nat.le_refl _)
theorem OSto.l {w : World} {lo hi : Nat} {s : Sto} {va vb vc : Value} (h : OSto w lo hi s va vb vc) : RStoL w lo hi s va vb vc := ⟨OPks.l h.pk, OSns.l h.sn, OHds.l h.lg⟩
def bSto (s : Sto) : Nat := bulkS bPk s.pk + bulkS bSn s.sn + s.lg.length

def NewSto (w : World) (s : Sto) (e : Ending) (w' : World) : Prop := ∃ va vb vc, e = .returned (.agg #[va, vb, vc]) ∧ OSto w' w.heap.size w'.heap.size s va vb vc ∧ Below w.heap.size w w'
end Go.Proofs.Ytpdkgpbfmpekgaa

