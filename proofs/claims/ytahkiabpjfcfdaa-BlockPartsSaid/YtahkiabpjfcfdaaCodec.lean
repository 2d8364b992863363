/- The contracts of package codec: numbers as bytes. -/
import Derived.Test.YtahkiabpjfcfdaaBytes
import Derived.Test.YtahkiabpjfcfdaaBase
import Derived.WalkLawsBesides
import Derived.Laws.DeepStrings4
import Derived.Lib.Hide
namespace Go.Proofs.Ytahkiabpjfcfdaa
open Go.RowKit
set_option linter.unusedVariables false
set_option linter.unusedSimpArgs false
set_option maxRecDepth 100000
attribute [local go_sem ↓] make_u8

/-- The byte that is stored. -/
theorem byte_at (n i : Nat) : (UInt8.ofNat (n / 256 ^ i)).toNat = n / 256 ^ i % 256 := by simp
theorem pow_two_256 (i : Nat) : 2 ^ (8 * i) = 256 ^ i := by rw [Nat.pow_mul]
/-- The row in the midst of the loop. -/
def midL (w n i : Nat) : List UInt8 := le i n ++ List.replicate (w - i) 0
theorem midL_length {w n i : Nat} (h : i ≤ w) : (midL w n i).length = w := by unfold midL; rw [List.length_append, le_length, List.length_replicate]; omega
theorem midL_zero (w n : Nat) : midL w n 0 = List.replicate w 0 := by unfold midL; simp [le]
theorem midL_all (w n : Nat) : midL w n w = le w n := by unfold midL; simp
theorem midL_set {w n i : Nat} (h : i < w) : (midL w n i).set i (UInt8.ofNat (n / 256 ^ i)) = midL w n (i + 1) := by
  unfold midL
  rw [List.set_append_right _ _ (by rw [le_length]; exact Nat.le_refl _), le_length, Nat.sub_self, show w - i = (w - (i + 1)) + 1 from by omega, List.replicate_succ, List.set_cons_zero, le_succ, List.append_assoc]
  rfl
theorem shr_byte (n i : Nat) : ((n : Int) / 2 ^ (8 * i)) % 256 = ((UInt8.ofNat (n / 256 ^ i)).toNat : Int) := by
  rw [byte_at, ← pow_two_256]
  simp

set_option maxHeartbeats 1000000 in
theorem little_u8 (n w : Nat) (W : World) (hn : n < 256) (hw : 1 ≤ w) (hw8 : w ≤ 8) : Calls Try.prog 78 #[.int .u8 n, .int .i64 w] W (Gives (.string (sB (le w n))) W) := by
  go_enter Try.func78, Try.ntmps78
  go_wp2_with fail
  rw [← midL_zero w n]
  go_loopw [6, 11] (fun _ i wr => ∃ j : Nat, j ≤ w ∧ i = .int .i64 j ∧ wr = W.alloc (.cells (bC (midL w n j)).toArray 5)) (fun _ i _ => w - (intOf i).toNat)
  case atStart => exact ⟨0, Nat.zero_le _, rfl, rfl⟩
  case round =>
    obtain ⟨j, hj, rfl, rfl⟩ := hrel
    by_cases hlt : j < w
    · have hx := midL_length (n := n) hj
      go_wp2_with fail
      refine ⟨⟨j + 1, by omega, by go_num, ?_⟩, by simp [intOf]; omega⟩
      rw [shr_byte, bC_set, midL_set hlt]
    · obtain rfl : j = w := by omega
      go_wp2_with fail
      rw [run_string_of _ _ _ (midL j n j) 5 j (midL_length (Nat.le_refl j)).symm (heap_alloc_new W _), midL_all]
      go_wp2
      go_ret
      exact gives rfl ((Below.refl _ _).alloc (Nat.le_refl _) _)

set_option maxHeartbeats 1000000 in
theorem little_u16 (n w : Nat) (W : World) (hn : n < 65536) (hw : 1 ≤ w) (hw8 : w ≤ 8) : Calls Try.prog 79 #[.int .u16 n, .int .i64 w] W (Gives (.string (sB (le w n))) W) := by
  go_enter Try.func79, Try.ntmps79
  go_wp2_with fail
  rw [← midL_zero w n]
  go_loopw [6, 11] (fun _ i wr => ∃ j : Nat, j ≤ w ∧ i = .int .i64 j ∧ wr = W.alloc (.cells (bC (midL w n j)).toArray 5)) (fun _ i _ => w - (intOf i).toNat)
  case atStart => exact ⟨0, Nat.zero_le _, rfl, rfl⟩
  case round =>
    obtain ⟨j, hj, rfl, rfl⟩ := hrel
    by_cases hlt : j < w
    · have hx := midL_length (n := n) hj
      go_wp2_with fail
      refine ⟨⟨j + 1, by omega, by go_num, ?_⟩, by simp [intOf]; omega⟩
      rw [shr_byte, bC_set, midL_set hlt]
    · obtain rfl : j = w := by omega
      go_wp2_with fail
      rw [run_string_of _ _ _ (midL j n j) 5 j (midL_length (Nat.le_refl j)).symm (heap_alloc_new W _), midL_all]
      go_wp2
      go_ret
      exact gives rfl ((Below.refl _ _).alloc (Nat.le_refl _) _)

set_option maxHeartbeats 1000000 in
theorem little_u32 (n w : Nat) (W : World) (hn : n < 4294967296) (hw : 1 ≤ w) (hw8 : w ≤ 8) : Calls Try.prog 80 #[.int .u32 n, .int .i64 w] W (Gives (.string (sB (le w n))) W) := by
  go_enter Try.func80, Try.ntmps80
  go_wp2_with fail
  rw [← midL_zero w n]
  go_loopw [6, 11] (fun _ i wr => ∃ j : Nat, j ≤ w ∧ i = .int .i64 j ∧ wr = W.alloc (.cells (bC (midL w n j)).toArray 5)) (fun _ i _ => w - (intOf i).toNat)
  case atStart => exact ⟨0, Nat.zero_le _, rfl, rfl⟩
  case round =>
    obtain ⟨j, hj, rfl, rfl⟩ := hrel
    by_cases hlt : j < w
    · have hx := midL_length (n := n) hj
      go_wp2_with fail
      refine ⟨⟨j + 1, by omega, by go_num, ?_⟩, by simp [intOf]; omega⟩
      rw [shr_byte, bC_set, midL_set hlt]
    · obtain rfl : j = w := by omega
      go_wp2_with fail
      rw [run_string_of _ _ _ (midL j n j) 5 j (midL_length (Nat.le_refl j)).symm (heap_alloc_new W _), midL_all]
      go_wp2
      go_ret
      exact gives rfl ((Below.refl _ _).alloc (Nat.le_refl _) _)

set_option maxHeartbeats 1000000 in
theorem little_u64 (n w : Nat) (W : World) (hn : n < 18446744073709551616) (hw : 1 ≤ w) (hw8 : w ≤ 8) : Calls Try.prog 77 #[.int .u64 n, .int .i64 w] W (Gives (.string (sB (le w n))) W) := by
  go_enter Try.func77, Try.ntmps77
  go_wp2_with fail
  rw [← midL_zero w n]
  go_loopw [6, 11] (fun _ i wr => ∃ j : Nat, j ≤ w ∧ i = .int .i64 j ∧ wr = W.alloc (.cells (bC (midL w n j)).toArray 5)) (fun _ i _ => w - (intOf i).toNat)
  case atStart => exact ⟨0, Nat.zero_le _, rfl, rfl⟩
  case round =>
    obtain ⟨j, hj, rfl, rfl⟩ := hrel
    by_cases hlt : j < w
    · have hx := midL_length (n := n) hj
      go_wp2_with fail
      refine ⟨⟨j + 1, by omega, by go_num, ?_⟩, by simp [intOf]; omega⟩
      rw [shr_byte, bC_set, midL_set hlt]
    · obtain rfl : j = w := by omega
      go_wp2_with fail
      rw [run_string_of _ _ _ (midL j n j) 5 j (midL_length (Nat.le_refl j)).symm (heap_alloc_new W _), midL_all]
      go_wp2
      go_ret
      exact gives rfl ((Below.refl _ _).alloc (Nat.le_refl _) _)

end Go.Proofs.Ytahkiabpjfcfdaa
