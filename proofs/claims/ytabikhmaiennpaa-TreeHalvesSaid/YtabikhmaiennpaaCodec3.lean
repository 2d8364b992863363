/- The contracts of package codec: Read, Key, Bytes. -/
import Derived.Test.YtabikhmaiennpaaCodec2
import Derived.Test.YtabikhmaiennpaaRes
namespace Go.Proofs.Ytabikhmaiennpaa
attribute [local irreducible] Int.lt Int.le
set_option maxRecDepth 100000
open Go.RowKit
set_option linter.unusedVariables false
set_option linter.unusedSimpArgs false

@[go_sem] theorem sB_get0 (b : UInt8) (l : List UInt8) (h : 0 < (sB (b :: l)).size) : (sB (b :: l))[0]'h = b := rfl
@[go_sem] theorem sB_tail (b : UInt8) (l : List UInt8) : (sB (b :: l)).extract 1 (l.length + 1) = sB l := by rw [sB_extract]; simp
def errOf (n : Nat) : Int := if n = 0 then 0 else if n = 1 then 30 else 31
def readV (s : List UInt8) : Nat × List UInt8 × Int := ((readL s).1, (readL s).2.1, errOf (readL s).2.2)
theorem readV_low {b : UInt8} {l : List UInt8} (h : b.toNat < 253) : readV (b :: l) = (b.toNat, l, 0) := by simp [readV, readL, h, errOf]
theorem readV_short {b : UInt8} {l : List UInt8} (h : ¬ b.toNat < 253) (h1 : l.length < widthOf b) : readV (b :: l) = (0, [], 30) := by simp [readV, readL, h, h1, errOf]
theorem readV_long {b : UInt8} {l : List UInt8} (h : ¬ b.toNat < 253) (h1 : ¬ l.length < widthOf b) (h2 : unle (l.take (widthOf b)) < leastOf b) : readV (b :: l) = (0, [], 31) := by simp [readV, readL, h, h1, h2, errOf]
theorem readV_well {b : UInt8} {l : List UInt8} (h : ¬ b.toNat < 253) (h1 : ¬ l.length < widthOf b) (h2 : ¬ unle (l.take (widthOf b)) < leastOf b) : readV (b :: l) = (unle (l.take (widthOf b)), l.drop (widthOf b), 0) := by simp [readV, readL, h, h1, h2, errOf]
theorem getV_short {l : List UInt8} {w : Nat} (h : 1 ≤ w) (h8 : w ≤ 8) (hl : l.length < w) : getV l w = (0, [], 30) := by unfold getV; rw [if_neg (by omega), if_pos (by omega)]
theorem getV_well {l : List UInt8} {w : Nat} (h : 1 ≤ w) (h8 : w ≤ 8) (hl : ¬ l.length < w) : getV l w = (unle (l.take w), l.drop w, 0) := by unfold getV; rw [if_neg (by omega), if_neg (by omega)]; rfl


end Go.Proofs.Ytabikhmaiennpaa
