


/- The text of a mark. -/
import Derived.Test.YtanppokbjladfaaOr
import Derived.Test.YtanppokbjladfaaStr
import Derived.Laws.BytesArg
namespace Go.Proofs.Ytanppokbjladfaa
open Go.RowKit

def mtGo : Nat → Nat → ByteArray → ByteArray
  | 0, _, out => out
  | f + 1, n, out => if n = 0 then out else mtGo f (n / 10) (strOfNums [48 + (n : Int) % 10] ++ out)
/-- The text of a mark. -/
def mt (k : Int) : ByteArray := ⟨#[109]⟩ ++ mtGo 13 k.toNat ⟨#[]⟩
theorem mtGo_size : ∀ (f n : Nat) (out : ByteArray), (mtGo f n out).size ≤ out.size + f
  | 0, _, _ => Nat.le_refl _
  | f + 1, n, out => by
    show (if n = 0 then out else _).size ≤ _
    split
    · omega
    · have := mtGo_size f (n / 10) (strOfNums [48 + (n : Int) % 10] ++ out)
      rw [ByteArray.size_append] at this
      have h1 : (strOfNums [48 + (n : Int) % 10]).size = 1 := rfl
      omega
theorem mt_size (k : Int) : (mt k).size ≤ maxLen := by
  have := mtGo_size 13 k.toNat ⟨#[]⟩
  unfold mt
  rw [ByteArray.size_append]
  have h1 : (⟨#[109]⟩ : ByteArray).size = 1 := rfl
  have h2 : (⟨#[]⟩ : ByteArray).size = 0 := rfl
  unfold maxLen
  omega
set_option maxRecDepth 20000 in
set_option maxHeartbeats 1000000 in
theorem markText_any (k : Int) (w : World) (hk : 1 ≤ k) (hk' : k ≤ 2199023255552) :
    Calls Try.prog 85 #[.int .i64 k] w fun e w' => e = .returned (.string (mt k)) ∧ Below w.heap.size w w' := by
  go_enter Try.func85, Try.ntmps85
  go_wp2_with fail
  go_loopw [0, 3] (fun kk oo wr => ∃ (f n : Nat) (out : ByteArray), kk = .int .i64 n ∧ oo = .string out ∧ n < 10 ^ f ∧ n ≤ 2199023255552 ∧ f ≤ 13 ∧ out.size ≤ 13 - f ∧ mtGo f n out = mtGo 13 k.toNat ⟨#[]⟩ ∧ Below w.heap.size w wr) (fun kk _ _ => (intOf kk).toNat)
  case atStart => exact ⟨13, k.toNat, _, by rw [Int.toNat_of_nonneg (by omega)], rfl, by omega, by omega, Nat.le_refl _, Nat.zero_le _, rfl, Below.refl _ _⟩
  case round =>
    obtain ⟨f, n, out, rfl, rfl, hf, hn2, hf13, hos, he, hb⟩ := hrel
    have HE := Lib.hid he; clear he
    by_cases hn : 0 < n
    · obtain ⟨f, rfl⟩ : ∃ f', f = f' + 1 := by
        cases f with
        | zero => simp at hf; omega
        | succ f => exact ⟨f, rfl⟩
      have hf2 : n / 10 < 10 ^ f := by rw [Nat.pow_succ] at hf; omega
      have hstep : mtGo (f + 1) n out = mtGo f (n / 10) (strOfNums [48 + (n : Int) % 10] ++ out) := by
        show (if n = 0 then out else _) = _
        rw [if_neg (by omega)]
      rw [hstep] at HE
      have HF := Lib.hid hf2; clear hf2 hf hstep
      have hcv := run_convert_bytes_arg (P := Try.prog) (wr.alloc (.cells #[.int .u8 (48 + (n : Int) % 10)] 5)) 33 5 Try.underlying33 Try.underlying5 wr.heap.size 0 1 1 [48 + (n : Int) % 10] rfl (fun i hi => by
        obtain rfl : i = 0 := by omega
        exact (Blk.new wr 5 #[.int .u8 (48 + (n : Int) % 10)]).cell 0) 9 Try.underlying9
      have ho1 : (strOfNums [48 + (n : Int) % 10] ++ out).size ≤ 13 - f := by rw [ByteArray.size_append]; have h1 : (strOfNums [48 + (n : Int) % 10]).size = 1 := rfl; omega
      have hsz : ¬ 9223372036854775807 < (strOfNums [48 + (n : Int) % 10]).size + out.size := by have h1 : (strOfNums [48 + (n : Int) % 10]).size = 1 := rfl; omega
      revert ho1 HE hcv hsz
      generalize strOfNums [48 + (n : Int) % 10] = D
      intro HE hcv ho1 hsz
      have HO := Lib.hid ho1; clear ho1
      go_wp2_with fail
      go_roundw
      case rel => exact ⟨f, n / 10, D ++ out, by go_num, rfl, HF.out, by omega, by omega, HO.out, HE.out, hb.trans (below_alloc _ _ |>.mono hb.size)⟩
      case measure => simp [intOf]; omega
    · obtain rfl : n = 0 := by omega
      have hz : out = mtGo 13 k.toNat ⟨#[]⟩ := by
        have := HE.out
        cases f with
        | zero => exact this
        | succ f => exact this
      have HZ := Lib.hid hz; clear hz
      go_wp2_with fail
      go_ret
      exact ⟨by rw [HZ.out]; rfl, hb⟩
end Go.Proofs.Ytanppokbjladfaa
