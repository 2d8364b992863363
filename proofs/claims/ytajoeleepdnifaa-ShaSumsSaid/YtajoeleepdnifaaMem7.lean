/- A slice of two elements that are rows. No program. -/
import Derived.Test.YtajoeleepdnifaaMem6
namespace Go.Proofs.Ytajoeleepdnifaa
set_option maxRecDepth 100000
open Go.RowKit
set_option linter.unusedVariables false

theorem foldl_set_at (off : Nat) : ∀ (cs : List Value) (k : Nat) (pre mid post : List Value), off + k = pre.length → mid.length = cs.length →
    (cs.zipIdx k).foldl (fun (a : Array Value) (p : Value × Nat) => a.setIfInBounds (off + p.2) p.1) (pre ++ mid ++ post).toArray = (pre ++ cs ++ post).toArray
  | [], k, pre, mid, post, _, h => by
    have : mid = [] := List.length_eq_zero_iff.1 (by simpa using h)
    subst this; rfl
  | c :: cs, k, pre, mid, post, hk, h => by
    cases mid with
    | nil => simp at h
    | cons m mid =>
      have := foldl_set_at off cs (k + 1) (pre ++ [c]) mid post (by simp; omega) (by simpa using h)
      rw [List.zipIdx_cons, List.foldl_cons]
      rw [show (pre ++ m :: mid ++ post).toArray.setIfInBounds (off + k) c = (pre ++ [c] ++ mid ++ post).toArray from by simp [hk]]
      rw [this]
      simp

def slowTwo (P : Program) (t : TypeId) (u v : Value) (w : World) : Result Next := (do pure (.value (← Instr.buildSlice t 2 #[(0, u), (1, v)])) : Sem Next).run P w
def twoGot (slow : Result Next) (e : TypeId) (w : World) (cs ds : List Value) : Bool → Result Next
  | true => .ok (.value (.slice (some ⟨w.heap.size, 0, none⟩) 2 2)) (w.alloc (.cells (cs ++ ds).toArray e))
  | false => slow
@[go_sem] theorem twoGot_true (slow : Result Next) (e : TypeId) (w : World) (cs ds : List Value) : twoGot slow e w cs ds true = .ok (.value (.slice (some ⟨w.heap.size, 0, none⟩) 2 2)) (w.alloc (.cells (cs ++ ds).toArray e)) := rfl
def twoTo (P : Program) (t e : TypeId) (n : Nat) (w : World) (u v : Value) : Result Next :=
  match u, v with
  | .agg cs, .agg ds => twoGot (slowTwo P t u v w) e w cs.toList ds.toList (decide (cs.toList.length = n) && decide (ds.toList.length = n))
  | _, _ => slowTwo P t u v w
@[go_sem] theorem twoTo_agg (P : Program) (t e : TypeId) (n : Nat) (w : World) (cs ds : List Value) : twoTo P t e n w (.agg cs.toArray) (.agg ds.toArray) = twoGot (slowTwo P t (.agg cs.toArray) (.agg ds.toArray) w) e w cs ds (decide (cs.length = n) && decide (ds.length = n)) := by
  simp only [twoTo]

theorem exec_two {P : Program} {t e : TypeId} {n : Nat} {i : TypeInfo} {Z : Array Value} (hu : P.underlying t = some (.slice e)) (hi : P.info? e = some i) (hs : i.size = n) (h0 : n ≠ 0) (hn : n ≤ 1000) (hz : i.zero = some (.agg Z)) (hZ : Z.size = n)
    (ρ : Operand → Value) (dst : Option Tmp) (x y : Operand) (t' : TypeId) (pos : String) (after : Array Edge) (guard : Option (Nat × Bool)) (w : World) :
    (execOp ρ ⟨dst, .buildSlice t 2 #[(0, x), (1, y)], t', pos, after, guard⟩).run P w = twoTo P t e n w (ρ x) (ρ y) := by
  have hslow : (execOp ρ ⟨dst, .buildSlice t 2 #[(0, x), (1, y)], t', pos, after, guard⟩).run P w = slowTwo P t (ρ x) (ρ y) w := by
    simp only [execOp, slowTwo]
    simp
  rw [hslow]
  unfold twoTo
  split
  · rename_i cs ds hv hv'
    cases h : (decide (cs.toList.length = n) && decide (ds.toList.length = n)) with
    | false => rfl
    | true =>
      simp only [Bool.and_eq_true, decide_eq_true_eq, Array.length_toList] at h
      obtain ⟨hc, hd⟩ := h
      obtain ⟨zs, hzs, hzl⟩ : ∃ zs : List Value, (Array.range (2 * n)).map (Z[· % Z.size]!) = zs.toArray ∧ zs.length = 2 * n := ⟨((Array.range (2 * n)).map (Z[· % Z.size]!)).toList, Array.toArray_toList.symm, by rw [Array.length_toList]; simp⟩
      have hc' : cs.toList.length = n := by rw [Array.length_toList]; exact hc
      have hd' : ds.toList.length = n := by rw [Array.length_toList]; exact hd
      have hf : Instr.fill (fun i => some (i * n, n)) ((Array.range (2 * n)).map (Z[· % Z.size]!)) [(0, .agg cs), (1, .agg ds)] = some (cs.toList ++ ds.toList).toArray := by
        have f1 := foldl_set_at 0 cs.toList 0 [] (zs.take n) (zs.drop n) rfl (by rw [List.length_take]; omega)
        have f2 := foldl_set_at n ds.toList 0 cs.toList (zs.drop n) [] (by omega) (by rw [List.length_drop]; omega)
        rw [List.nil_append, List.take_append_drop, List.nil_append] at f1
        rw [List.append_nil, List.append_nil] at f2
        rw [hzs]
        simp only [Instr.fill, Value.cells, hc, hd, List.size_toArray, hzl]
        rw [if_neg (by simp <;> omega), ← Array.foldl_toList, Array.toList_zipIdx, Nat.zero_mul, f1, List.size_toArray, List.length_append, List.length_drop, hc', hzl, if_neg (by simp <;> omega), ← Array.foldl_toList, Array.toList_zipIdx, Nat.one_mul, f2]
      simp only [slowTwo, Instr.buildSlice, Sem.run_bind, run_underlying hu, Result.andThen_ok, sizeOf, typeInfo, run_program, hi, hs, Sem.run_pure]
      rw [if_neg (by omega), if_neg (by omega)]
      have hb : (zeroValue e).run P w = .ok (.agg Z) w := by simp [zeroValue, typeInfo, hi, hz]
      simp only [Sem.run_bind, hb, Result.andThen_ok, Sem.run_pure, hv, hv', Value.cells, hf, newRow, newObj]
      simp only [twoGot]
      rfl
  · rfl
theorem SL.two {α : Type} {f : α → List Value} {n : Nat} (hf : ∀ x, (f x).length = n) (x y : α) (t : TypeId) (w : World) : SL f n (w.alloc (.cells (f x ++ f y).toArray t)) (some ⟨w.heap.size, 0, none⟩) 2 2 [x, y] := by
  have := SL.new hf w [x, y] t w.heap.size rfl (by unfold maxLen; simp)
  rw [rows_cons, rows_one] at this
  exact this

end Go.Proofs.Ytajoeleepdnifaa
