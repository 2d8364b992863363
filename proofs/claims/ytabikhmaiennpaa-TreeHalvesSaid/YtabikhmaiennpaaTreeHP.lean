/- Trees in plain words: as many notes as a whole part has, put behind whole parts, are one part more. No walk. -/
import Derived.Test.YtabikhmaiennpaaTreeP
namespace Go.Proofs.Ytabikhmaiennpaa
open Go.RowKit
set_option linter.unusedVariables false
set_option linter.unusedSimpArgs false
set_option maxRecDepth 100000

/-- The root of 2^k notes. -/
def rt : Nat → List Key → Key
  | 0, l => l.headD zeroKey
  | k + 1, l => pairK (rt k (l.take (2 ^ k))) (rt k (l.drop (2 ^ k)))
theorem mul_div (k q : Nat) : 2 ^ (k + 1) * q / 2 ^ k = 2 * q := by
  rw [Nat.pow_succ, Nat.mul_assoc, Nat.mul_div_cancel_left _ (Nat.two_pow_pos k)]
theorem mul_div1 (k q : Nat) : (2 ^ (k + 1) * q + 2 ^ k) / 2 ^ k = 2 * q + 1 := by
  rw [Nat.add_div_right _ (Nat.two_pow_pos k), mul_div]
theorem mul_bit0 (k q : Nat) : bitB (2 ^ (k + 1) * q) k = false := by
  unfold bitB; rw [mul_div]; simp
theorem mul_bit1 (k q : Nat) : bitB (2 ^ (k + 1) * q + 2 ^ k) k = true := by
  unfold bitB; rw [mul_div1]; simp
theorem mul_bit2 (k q i : Nat) (h : k + 1 ≤ i) : bitB (2 ^ (k + 1) * q + 2 ^ k) i = bitB (2 ^ (k + 1) * q) i := by
  obtain ⟨m, rfl⟩ : ∃ m, i = k + (m + 1) := ⟨i - k - 1, by omega⟩
  unfold bitB
  have e1 : (2 ^ (k + 1) * q + 2 ^ k) / 2 ^ (k + (m + 1)) = q / 2 ^ m := by
    rw [show 2 ^ (k + (m + 1)) = 2 ^ k * 2 ^ (m + 1) from Nat.pow_add 2 k (m + 1), ← Nat.div_div_eq_div_mul, mul_div1, Nat.pow_succ, Nat.mul_comm (2 ^ m) 2, ← Nat.div_div_eq_div_mul, show (2 * q + 1) / 2 = q from by omega]
  have e2 : 2 ^ (k + 1) * q / 2 ^ (k + (m + 1)) = q / 2 ^ m := by
    rw [show 2 ^ (k + (m + 1)) = 2 ^ k * 2 ^ (m + 1) from Nat.pow_add 2 k (m + 1), ← Nat.div_div_eq_div_mul, mul_div, Nat.pow_succ, Nat.mul_comm (2 ^ m) 2, ← Nat.div_div_eq_div_mul, show 2 * q / 2 = q from by omega]
  rw [e1, e2]
theorem upL_congr {c c' : Nat} : ∀ (f j : Nat) (x : Key) (l : List Key), (∀ i, j ≤ i → bitB c i = bitB c' i) → upL c f j x l = upL c' f j x l
  | 0, _, _, _, _ => rfl
  | f + 1, j, x, l, h => by
    unfold upL
    rw [h j (Nat.le_refl _), upL_congr f (j + 1) _ _ (fun i hi => h i (by omega))]
theorem puts_two (t : TreeV) (l m : List Key) : putsT t (l ++ m) = putsT (putsT t l) m := by unfold putsT; rw [List.foldl_append]
theorem puts_pow : ∀ (k : Nat) (notes : List Key) (q : Nat) (t : TreeV), k ≤ 31 → notes.length = 2 ^ k → t.count = 2 ^ k * q → (∀ i, i < k → t.l[i]? = some zeroKey) → (putsT t notes).l = upL t.count (32 - k) k (rt k notes) t.l
  | 0, notes, q, t, hk, hl, hc, hz => by
    match notes, hl with
    | [x], _ =>
      show (putT t x).l = upL t.count 32 0 x t.l
      exact putT_l t x
  | k + 1, notes, q, t, hk, hl, hc, hz => by
    have hp : 2 ^ (k + 1) = 2 ^ k + 2 ^ k := by rw [Nat.pow_succ]; omega
    have hpos := Nat.two_pow_pos k
    have lA : (notes.take (2 ^ k)).length = 2 ^ k := by rw [List.length_take]; omega
    have lB : (notes.drop (2 ^ k)).length = 2 ^ k := by rw [List.length_drop]; omega
    have hsplit : putsT t notes = putsT (putsT t (notes.take (2 ^ k))) (notes.drop (2 ^ k)) := by rw [← puts_two, List.take_append_drop]
    have ih1 := puts_pow k (notes.take (2 ^ k)) (2 * q) t (by omega) lA (by rw [hc, Nat.pow_succ, Nat.mul_assoc]) (fun i hi => hz i (by omega))
    have hc1 : (putsT t (notes.take (2 ^ k))).count = 2 ^ (k + 1) * q + 2 ^ k := by rw [putsT_count, lA, hc]
    have hl32 := t.h
    rw [show 32 - k = (31 - k) + 1 from by omega, upL, hc, mul_bit0, if_neg (by decide)] at ih1
    have ih2 := puts_pow k (notes.drop (2 ^ k)) (2 * q + 1) (putsT t (notes.take (2 ^ k))) (by omega) lB (by rw [hc1, Nat.pow_succ, Nat.mul_add, Nat.mul_assoc]; omega) (fun i hi => by
      rw [ih1, List.getElem?_set, if_neg (by omega)]; exact hz i (by omega))
    rw [show 32 - k = (31 - k) + 1 from by omega, upL, hc1, mul_bit1, if_pos rfl, ih1] at ih2
    have hg : (t.l.set k (rt k (notes.take (2 ^ k)))).getD k zeroKey = rt k (notes.take (2 ^ k)) := by
      rw [List.getD_eq_getElem?_getD, List.getElem?_set, if_pos rfl, if_pos (by omega)]; rfl
    have hs : (t.l.set k (rt k (notes.take (2 ^ k)))).set k zeroKey = t.l := by
      rw [List.set_set]
      refine List.ext_getElem? fun i => ?_
      rw [List.getElem?_set]
      by_cases h : k = i
      · subst h
        rw [if_pos rfl, if_pos (by omega)]; exact (hz k (Nat.lt_succ_self k)).symm
      · rw [if_neg h]
    rw [hg, hs] at ih2
    rw [hsplit, ih2, hc, show 32 - (k + 1) = 31 - k from by omega]
    exact upL_congr _ _ _ _ (fun i hi => mul_bit2 k q i hi)
theorem rt_zero (k : Nat) (hk : k ≤ 31) (l : List Key) (h : l.length = 2 ^ k) : (putsT zeroTree l).l = (List.replicate 32 zeroKey).set k (rt k l) := by
  have := puts_pow k l 0 zeroTree hk h (by show 0 = _; omega) (fun i hi => by
    show (List.replicate 32 zeroKey)[i]? = _
    rw [List.getElem?_replicate, if_pos (by omega)])
  rw [this, show 32 - k = (31 - k) + 1 from by omega]
  show upL 0 (31 - k + 1) k (rt k l) (List.replicate 32 zeroKey) = _
  rw [upL, bit_zero, if_neg (by decide)]
/-- What TreeHalves says. -/
theorem halves (k : Nat) (hk : k ≤ 30) (l : List Key) (h : l.length = 2 ^ (k + 1)) :
    ∃ x y, (putsT zeroTree (l.take (2 ^ k))).l[k]? = some x ∧ (putsT zeroTree (l.drop (2 ^ k))).l[k]? = some y ∧ (putsT zeroTree l).l[k + 1]? = some (pairK x y) ∧ (putsT zeroTree l).l[k]? = some zeroKey ∧ (putsT zeroTree l).count = 2 ^ (k + 1) := by
  have hp : 2 ^ (k + 1) = 2 ^ k + 2 ^ k := by rw [Nat.pow_succ]; omega
  have hr : ∀ i, i < 32 → (List.replicate 32 zeroKey)[i]? = some zeroKey := fun i hi => by rw [List.getElem?_replicate, if_pos hi]
  refine ⟨rt k (l.take (2 ^ k)), rt k (l.drop (2 ^ k)), ?_, ?_, ?_, ?_, ?_⟩
  · rw [rt_zero k (by omega) _ (by rw [List.length_take]; omega), List.getElem?_set, if_pos rfl, if_pos (by rw [List.length_replicate]; omega)]
  · rw [rt_zero k (by omega) _ (by rw [List.length_drop]; omega), List.getElem?_set, if_pos rfl, if_pos (by rw [List.length_replicate]; omega)]
  · rw [rt_zero (k + 1) (by omega) _ h, List.getElem?_set, if_pos rfl, if_pos (by rw [List.length_replicate]; omega)]; rfl
  · rw [rt_zero (k + 1) (by omega) _ h, List.getElem?_set, if_neg (by omega)]; exact hr k (by omega)
  · rw [putsT_count, h]; show 0 + _ = _; omega
end Go.Proofs.Ytabikhmaiennpaa
