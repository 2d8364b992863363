/- The document's own answers of layer 3: Key, Bytes. -/
import Derived.Test.YtabikhmaiennpaaCodecRef2
namespace Go.Proofs.Ytabikhmaiennpaa
set_option maxRecDepth 100000
open Go.RowKit
set_option linter.unusedVariables false
set_option linter.unusedSimpArgs false
attribute [local irreducible] Int.lt Int.le
attribute [local go_sem] sB_append le_length
attribute [local go_sem ↓] load_key store_key alloc_key build0_key eq_key append_u8
attribute [local go_sem] rowOf_drew rowOf_alloc_old rowOf_alloc_new canPut_drew canPut_alloc_old canPut_alloc_new setCells_alloc_new

theorem bC_nil : bC [] = [] := by unfold bC; rfl


/-- The key in the midst of the loop. -/
def midK (s : List UInt8) (j : Nat) : List UInt8 := s.take j ++ List.replicate (32 - j) 0
theorem midK_length {s : List UInt8} {j : Nat} (h : 32 ≤ s.length) (hj : j ≤ 32) : (midK s j).length = 32 := by unfold midK; rw [List.length_append, List.length_take, List.length_replicate]; omega
theorem midK_set {s : List UInt8} {j : Nat} (h : 32 ≤ s.length) (hj : j < 32) : (midK s j).set j (s[j]'(by omega)) = midK s (j + 1) := by
  unfold midK
  rw [List.set_append_right _ _ (by rw [List.length_take]; omega), List.length_take, Nat.min_eq_left (by omega), Nat.sub_self, show 32 - j = (32 - (j + 1)) + 1 from by omega, List.replicate_succ, List.set_cons_zero, List.take_add_one, List.getElem?_eq_getElem (by omega), List.append_assoc]
  rfl


end Go.Proofs.Ytabikhmaiennpaa
