


/- The text of a mark. -/
import Derived.Test.YtpdkgpbfmpekgaaGreatDoorOr
import Derived.Test.YtpdkgpbfmpekgaaGreatDoorStr
import Derived.Laws.BytesArg
namespace Go.Proofs.YtpdkgpbfmpekgaaGreatDoor
open Go.RowKit

def mtGo : Nat → Nat → ByteArray → ByteArray
  | 0, _, out => out
  | f + 1, n, out => if n = 0 then out else mtGo f (n / 10) (strOfNums [48 + (n : Int) % 10] ++ out)
/-- The text of a mark. -/
def mt (k : Int) : ByteArray := ⟨#[109]⟩ ++ mtGo 13 k.toNat ⟨#[]⟩
theorem mtGo_size : ∀ (f n : Nat) (out : ByteArray), (mtGo f n out).size ≤ out.size + f
  | 0, _, _ => Nat.le_refl _
  | f + 1, n, out => by
    show (if n = 0 then out else _).size ≤ _
    split
    · omega
    · have := mtGo_size f (n / 10) (strOfNums [48 + (n : Int) % 10] ++ out)
      rw [ByteArray.size_append] at this
      have h1 : (strOfNums [48 + (n : Int) % 10]).size = 1 := rfl
      omega
theorem mt_size (k : Int) : (mt k).size ≤ maxLen := by
  have := mtGo_size 13 k.toNat ⟨#[]⟩
  unfold mt
  rw [ByteArray.size_append]
  have h1 : (⟨#[109]⟩ : ByteArray).size = 1 := rfl
  have h2 : (⟨#[]⟩ : ByteArray).size = 0 := rfl
  unfold maxLen
  omega
end Go.Proofs.YtpdkgpbfmpekgaaGreatDoor
