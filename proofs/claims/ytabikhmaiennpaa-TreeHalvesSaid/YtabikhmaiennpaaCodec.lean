/- The contracts of package codec: numbers as bytes. -/
import Derived.Test.YtabikhmaiennpaaBytes
import Derived.Test.YtabikhmaiennpaaBase
import Derived.WalkLawsBesides
import Derived.Laws.DeepStrings4
import Derived.Lib.Hide
namespace Go.Proofs.Ytabikhmaiennpaa
open Go.RowKit
set_option linter.unusedVariables false
set_option linter.unusedSimpArgs false
set_option maxRecDepth 100000
attribute [local go_sem ↓] make_u8

/-- The byte that is stored. -/
theorem byte_at (n i : Nat) : (UInt8.ofNat (n / 256 ^ i)).toNat = n / 256 ^ i % 256 := by simp
theorem pow_two_256 (i : Nat) : 2 ^ (8 * i) = 256 ^ i := by rw [Nat.pow_mul]
/-- The row in the midst of the loop. -/
def midL (w n i : Nat) : List UInt8 := le i n ++ List.replicate (w - i) 0
theorem midL_length {w n i : Nat} (h : i ≤ w) : (midL w n i).length = w := by unfold midL; rw [List.length_append, le_length, List.length_replicate]; omega
theorem midL_zero (w n : Nat) : midL w n 0 = List.replicate w 0 := by unfold midL; simp [le]
theorem midL_all (w n : Nat) : midL w n w = le w n := by unfold midL; simp
theorem midL_set {w n i : Nat} (h : i < w) : (midL w n i).set i (UInt8.ofNat (n / 256 ^ i)) = midL w n (i + 1) := by
  unfold midL
  rw [List.set_append_right _ _ (by rw [le_length]; exact Nat.le_refl _), le_length, Nat.sub_self, show w - i = (w - (i + 1)) + 1 from by omega, List.replicate_succ, List.set_cons_zero, le_succ, List.append_assoc]
  rfl
theorem shr_byte (n i : Nat) : ((n : Int) / 2 ^ (8 * i)) % 256 = ((UInt8.ofNat (n / 256 ^ i)).toNat : Int) := by
  rw [byte_at, ← pow_two_256]
  simp





end Go.Proofs.Ytabikhmaiennpaa
