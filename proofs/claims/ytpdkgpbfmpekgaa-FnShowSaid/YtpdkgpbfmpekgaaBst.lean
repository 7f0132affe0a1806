


/- The program's search tree of spots: put and list, by induction on the tree. -/
import Derived.Test.YtpdkgpbfmpekgaaIxL
import Derived.Test.YtpdkgpbfmpekgaaEf
import Derived.Test.YtpdkgpbfmpekgaaEm
namespace Go.Proofs.Ytpdkgpbfmpekgaa
open Go.RowKit

def FSp : Flat Sp := ⟨2, fun s => [.int .i64 s.n, .int .i64 s.p], fun x => In64 x.n ∧ In64 x.p, fun _ => rfl, fun x u hu => by simp at hu; rcases hu with rfl | rfl <;> rfl, by decide⟩
theorem elem_sp : Elem Try.prog 100 119 2 16 := Elem.mk' Try.underlying100 (z := .agg #[.int .i64 0, .int .i64 0]) (by kernel_rfl) rfl (by decide) (by decide)

def Tr.ptr : Tr → Value
  | .nil => .pointer none
  | .node b _ _ _ => .pointer (some ⟨b, 0, none⟩)
/-- A tree lies in a world. -/
def Tin (w : World) : Tr → Prop
  | .nil => True
  | .node b s l r => Blk w b 0 #[.int .i64 s.n, .int .i64 s.p, l.ptr, r.ptr] ∧ Tin w l ∧ Tin w r
theorem Tin.lt {w : World} : ∀ {t : Tr}, Tin w t → ∀ b ∈ t.blocks, b < w.heap.size
  | .nil, _, _, h => by cases h
  | .node c s l r, ⟨hk, hl, hr⟩, b, h => by
    simp only [Tr.blocks, List.mem_cons, List.mem_append] at h
    rcases h with rfl | h | h
    · exact hk.lt
    · exact hl.lt b h
    · exact hr.lt b h
theorem Tin.chg {w w' : World} {S : Nat → Prop} (hc : Chg S w w') : ∀ {t : Tr}, Tin w t → (∀ b ∈ t.blocks, ¬ S b) → Tin w' t
  | .nil, _, _ => trivial
  | .node c s l r, ⟨hk, hl, hr⟩, h => by
    refine ⟨blk_chg hk hc (h c (by simp [Tr.blocks])), Tin.chg hc hl fun b hb => h b (by simp [Tr.blocks, hb]), Tin.chg hc hr fun b hb => h b (by simp [Tr.blocks, hb])⟩
theorem Tin.below {w w' : World} (hb : Below w.heap.size w w') {t : Tr} (h : Tin w t) : Tin w' t := Tin.chg (Chg.of_below (S := fun _ => False) hb) h fun _ _ h => h
theorem Tr.ptr_form (t : Tr) : ∃ p, t.ptr = .pointer p := by cases t <;> exact ⟨_, rfl⟩
theorem rg_blk_ne' {e t : TypeId} {w : World} {α : Type} {F : Flat α} {base : Nat} {v : Value} {xs : List α} (ho : OwnF F e w base v xs) {g : Nat} {cs : Array Value} (hk : Blk w g t cs) (he : e ≠ t) : ∀ b, v.ownBlock = some b → b ≠ g := by
  rintro b hb rfl
  rcases ho.2 with ⟨rfl, _⟩ | ⟨g', cap, cur, rfl, _, hg, _⟩
  · cases hb
  · cases hb
    unfold Blk at hk
    rw [hk] at hg
    simp at hg
    exact he hg.2.symm
theorem tin_own {w : World} {base : Nat} {v : Value} {xs : List Sp} (ho : OwnF FSp 119 w base v xs) : ∀ {t : Tr}, Tin w t → ∀ b ∈ t.blocks, ¬ v.ownBlock = some b
  | .nil, _, _, h => by cases h
  | .node c s l r, ⟨hk, hl, hr⟩, b, h => by
    simp only [Tr.blocks, List.mem_cons, List.mem_append] at h
    rcases h with rfl | h | h
    · exact fun e => rg_blk_ne' ho hk (by decide) _ e rfl
    · exact tin_own ho hl b h
    · exact tin_own ho hr b h
end Go.Proofs.Ytpdkgpbfmpekgaa
