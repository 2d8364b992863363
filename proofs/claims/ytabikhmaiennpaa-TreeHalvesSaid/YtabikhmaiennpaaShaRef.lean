/- Layer 1: the document's Bytes. -/
import Derived.Test.YtabikhmaiennpaaSha9
namespace Go.Proofs.Ytabikhmaiennpaa
open Go.RowKit
set_option linter.unusedVariables false
set_option linter.unusedSimpArgs false
set_option maxRecDepth 100000
attribute [local irreducible] Int.lt Int.le
attribute [local go_sem] sB_append le_length
attribute [local go_sem ↓] load_key store_key alloc_key build0_key eq_key append_u8
attribute [local go_sem] rowOf_drew rowOf_alloc_old rowOf_alloc_new canPut_drew canPut_alloc_old canPut_alloc_new setCells_alloc_new

set_option maxHeartbeats 1000000 in
theorem ref1Bytes_any (k : Key) (W : World) : Calls Try.prog 17 #[.agg (keyC k).toArray] W (Gives (.string (sB k.val)) W) := by
  go_enter Try.func17, Try.ntmps17
  go_wp2_with fail
  have hB0 : Below W.heap.size W (W.alloc (.cells (keyC k).toArray 23)) := (Below.refl _ _).alloc (Nat.le_refl _) _
  have hr0 : rowOf (W.alloc (.cells (keyC k).toArray 23)) W.heap.size 0 32 = some (keyC k) := rowOf_alloc_new _ _ _ _ _ _ rfl (keyC_length k)
  obtain ⟨w1, hw1⟩ : ∃ w1, w1 = W.alloc (.cells (keyC k).toArray 23) := ⟨_, rfl⟩
  have hsz1 : w1.heap.size = W.heap.size + 1 := by rw [hw1]; simp
  rw [← hw1] at hB0 hr0 ⊢
  replace hw1 := Box.mk hw1
  have hO : OwnB (w1.alloc (.cells #[] 5)) (W.heap.size + 1) (.slice (some ⟨W.heap.size + 1, 0, none⟩) 0 0) (k.val.take 0) := by
    show OwnV _ _ _ _ (bC [])
    rw [bC_nil]
    exact OwnV.empty w1 (W.heap.size + 1) 5 (W.heap.size + 1) hsz1.symm (Nat.le_refl _)
  have hB1 : Below (W.heap.size + 1) w1 (w1.alloc (.cells #[] 5)) := (Below.refl _ _).alloc (by omega) _
  go_loopw [3, 4] (fun v i wr => Below (W.heap.size + 1) w1 wr ∧ ∃ j : Nat, j ≤ 32 ∧ i = .int .i64 j ∧ ∃ g c, v = .slice (some ⟨g, 0, none⟩) j c ∧ OwnB wr (W.heap.size + 1) (.slice (some ⟨g, 0, none⟩) j c) (k.val.take j)) (fun _ i _ => 32 - (intOf i).toNat)
  case atStart => exact ⟨hB1, 0, by omega, rfl, _, _, rfl, hO⟩
  case round =>
    obtain ⟨hbr, j, hj, rfl, g, c, rfl, hown⟩ := hrel
    have hsz := hbr.size
    have hk := k.2
    by_cases hlt : j < 32
    · have hlt' : (j : Int) < 32 := by omega
      have hx : k.val[j]? = some (k.val[j]'(by omega)) := List.getElem?_eq_getElem (by omega)
      have hcell : wr.cell? ⟨W.heap.size, j, none⟩ = some (.int .u8 ((k.val[j]'(by omega)).toNat : Int)) := by
        rw [hbr.cell (p := ⟨W.heap.size, j, none⟩) (Nat.lt_succ_self _)]
        have := (rowOf_some.1 hr0).2 j _ (by rw [keyC_bC]; exact bC_get hx)
        rwa [Nat.zero_add] at this
      have hs : k.val.take (j + 1) = k.val.take j ++ [k.val[j]'(by omega)] := by rw [List.take_add_one, hx]; rfl
      generalize k.val[j]'(by omega) = x at *
      clear hx
      go_wp2_with fail
      obtain ⟨g', c', w', hap, hown', hb', hs'⟩ := app_u8 (ty := 51) hown (by omega) x _ rfl (by rw [List.length_take]; omega)
      rw [List.length_take, Nat.min_eq_left (by omega)] at hap hown'
      rw [← hs] at hown'
      rw [hap]
      go_wp2
      go_roundw
      case rel => exact ⟨hbr.trans hb', j + 1, by omega, by go_num, g', c', rfl, hown'⟩
      case measure => simp [intOf]; omega
    · obtain rfl : j = 32 := by omega
      go_wp2_with fail
      rw [run_string_own hown, List.take_of_length_le (by omega)]
      go_wp2
      go_ret
      exact gives rfl (hB0.trans (hbr.mono (Nat.le_succ _)))


end Go.Proofs.Ytabikhmaiennpaa
