/- Package tx: what Read's deferred function does. -/
import Derived.Test.YtahkiabpjfcfdaaRd3
import Derived.Recover
import Derived.Defers
namespace Go.Proofs.Ytahkiabpjfcfdaa
open Go.RowKit
set_option linter.unusedVariables false
set_option linter.unusedSimpArgs false
set_option maxRecDepth 100000
attribute [local irreducible] Int.lt Int.le
attribute [local go_sem ↓] load_key store_key alloc_key build0_key eq_key load_point store_point alloc_point load_out store_out alloc_out load_tx store_tx alloc_tx build0_tx
attribute [local go_sem] rowOf_drew rowOf_alloc_old rowOf_alloc_new canPut_drew canPut_alloc_old canPut_alloc_new setCells_alloc_new

theorem heap_setCells_all {w : World} {b : Nat} {mid cs : List Value} {t : TypeId} {fr : Nat × Nat} (h : w.heap[b]? = some (.cells mid.toArray t fr)) (hl : mid.length = cs.length) : (w.setCells b 0 cs).heap[b]? = some (.cells cs.toArray t fr) := by
  have hlt : b < w.heap.size := (Array.getElem?_eq_some_iff.1 h).1
  have := setCells_append b cs w [] mid [] t fr hl (by simpa using h)
  simp only [List.length_nil, List.nil_append, List.append_nil] at this
  rw [this]
  simp [hlt]
/-- What the deferred function needs: the three results' blocks. -/
structure RJ (B : Nat) (t : TxV) (r : List UInt8) (x : Int) (w : World) : Prop where
  tx : w.heap[B]? = some (.cells (txC t).toArray 41 (0, 0))
  rest : w.heap[B + 1]? = some (.cells #[.string (sB r)] 9 (0, 0))
  er : w.heap[B + 1 + 1]? = some (.cells #[.int .i64 x] 52 (0, 0))
theorem RJ.oth {B : Nat} {t : TxV} {r : List UInt8} {x : Int} {w w' : World} (h : RJ B t r x w) (ho : Oth (B + 1 + 1 + 1) w w') : RJ B t r x w' := ⟨ho.keep h.tx (by omega), ho.keep h.rest (by omega), ho.keep h.er (by omega)⟩

theorem read_catch {B : Nat} {t : TxV} {r : List UInt8} {y x : Int} {w : World} (h : RJ B t r y w) (older : List PanicEntry) :
    CallsD Try.prog 92 #[.pointer (some ⟨B, 0, none⟩), .pointer (some ⟨B + 1, 0, none⟩), .pointer (some ⟨B + 1 + 1, 0, none⟩)] (.panicking ({ v := .iface 52 (.int .i64 x), recovered := false } :: older)) w fun e u' w' =>
      e = .returned (.tuple #[]) ∧ u' = .panicking ({ v := .iface 52 (.int .i64 x), recovered := true } :: older) ∧ RJ B zeroTx [] x w' ∧ Below B w w' := by
  have b0 : B < w.heap.size := (Array.getElem?_eq_some_iff.1 h.tx).1
  have b1 : B + 1 < w.heap.size := (Array.getElem?_eq_some_iff.1 h.rest).1
  have b2 : B + 1 + 1 < w.heap.size := (Array.getElem?_eq_some_iff.1 h.er).1
  have hcp : canPut w B 0 38 = true := canPut_block h.tx 0 38 (by simp [txC_length])
  have k1 := heap_setCells_all (cs := txC zeroTx) h.tx (by rw [txC_length, txC_length])
  have B1 := below_setCells (B := B) (Nat.le_refl _) (txC zeroTx) 0 w w (Below.refl _ _)
  have E1 : ∀ c, c ≠ B → (w.setCells B 0 (txC zeroTx)).heap[c]? = w.heap[c]? := by
    intro c hc
    have := (Oth2.setCells (Oth2.refl (w.heap.size + 1) B w) 0 (txC zeroTx)).block c
    by_cases hl : c < w.heap.size
    · exact this hl (by omega) hc
    · rw [Array.getElem?_eq_none (by rw [setCells_size]; omega), Array.getElem?_eq_none (by omega)]
  have r1 : (w.setCells B 0 (txC zeroTx)).heap[B + 1]? = _ := (E1 _ (by omega)).trans h.rest
  have e1 : (w.setCells B 0 (txC zeroTx)).heap[B + 1 + 1]? = _ := (E1 _ (by omega)).trans h.er
  have hs1 : (w.setCells B 0 (txC zeroTx)).heap.size = w.heap.size := setCells_size _ _ _ _
  refine callsD_of_wpS Try.func92 rfl fun c₀ cs hu => ?_
  apply wpS_seq
  apply wpS_region
  simp [wpOpsS, go_sem, recoverD, hu, Try.ntmps92, Exit.thenS]
  refine wpS_of_wp ?_
  have hta : ∀ w : World, (Instr.typeAssert (.iface 52 (.int .i64 x)) 20 52 true).run Try.prog w = .ok (.tuple #[.int .i64 x, .bool true]) w := fun _ => by kernel_rfl
  rw [show (#[Value.pointer (some ⟨B, 0, none⟩), Value.pointer (some ⟨B + 1, 0, none⟩), Value.pointer (some ⟨B + 1 + 1, 0, none⟩)] ++ (Array.replicate 11 undef).setIfInBounds 3 (Value.iface 52 (.int .i64 x))) = #[Value.pointer (some ⟨B, 0, none⟩), Value.pointer (some ⟨B + 1, 0, none⟩), Value.pointer (some ⟨B + 1 + 1, 0, none⟩), undef, undef, undef, Value.iface 52 (.int .i64 x), undef, undef, undef, undef, undef, undef, undef] from rfl]
  have c1 : (w.setCells B 0 (txC zeroTx)).cell? ⟨B + 1, 0, none⟩ = some (.string (sB r)) := by rw [cell_of_row _ _ 0 _ _ _ r1]; rfl
  have c2 : (w.setCells B 0 (txC zeroTx)).frozen? ⟨B + 1, 0, none⟩ = false := frozen_of_row _ _ 0 _ _ r1
  have c3 : (w.setCells B 0 (txC zeroTx)).cell? ⟨B + 1 + 1, 0, none⟩ = some (.int .i64 y) := by rw [cell_of_row _ _ 0 _ _ _ e1]; rfl
  have c4 : (w.setCells B 0 (txC zeroTx)).frozen? ⟨B + 1 + 1, 0, none⟩ = false := frozen_of_row _ _ 0 _ _ e1
  have c5 : B + 1 < (w.setCells B 0 (txC zeroTx)).heap.size := by omega
  have c6 : B + 1 + 1 < (w.setCells B 0 (txC zeroTx)).heap.size := by omega
  have F : RJ B zeroTx [] x (((w.setCells B 0 (txC zeroTx)).setCell ⟨B + 1, 0, none⟩ (.string (sB []))).setCell ⟨B + 1 + 1, 0, none⟩ (.int .i64 x)) :=
    ⟨by rw [heap_setCell_ne (by omega), heap_setCell_ne (by omega)]; exact k1, by rw [heap_setCell_ne (by omega)]; exact heap_setCell_one r1 _, heap_setCell_one (by rw [heap_setCell_ne (by omega)]; exact e1) _⟩
  have FB : Below B w (((w.setCells B 0 (txC zeroTx)).setCell ⟨B + 1, 0, none⟩ (.string (sB []))).setCell ⟨B + 1 + 1, 0, none⟩ (.int .i64 x)) := Below.setCell (Below.setCell B1 (Nat.le_succ _) _) (by show B ≤ B + 1 + 1; omega) _
  replace h := Box.mk h
  replace k1 := Box.mk k1
  replace B1 := Box.mk B1
  replace E1 := Box.mk E1
  replace r1 := Box.mk r1
  replace e1 := Box.mk e1
  replace F := Box.mk F
  replace FB := Box.mk FB
  go_wp2
  cases c₀
  simp_all [bodyPostS, results, Try.results92]
  exact ⟨F.out, FB.out⟩
theorem read_idle {B : Nat} {w : World} :
    CallsD Try.prog 92 #[.pointer (some ⟨B, 0, none⟩), .pointer (some ⟨B + 1, 0, none⟩), .pointer (some ⟨B + 1 + 1, 0, none⟩)] .returning w fun e u' w' => e = .returned (.tuple #[]) ∧ u' = .returning ∧ Below w.heap.size w w' := by
  refine callsD_of_wpS Try.func92 rfl fun c₀ cs hu => ?_
  apply wpS_seq
  apply wpS_region
  simp [wpOpsS, go_sem, recoverD, hu, Try.ntmps92, Exit.thenS]
  refine wpS_of_wp ?_
  rw [show (#[Value.pointer (some ⟨B, 0, none⟩), Value.pointer (some ⟨B + 1, 0, none⟩), Value.pointer (some ⟨B + 1 + 1, 0, none⟩)] ++ (Array.replicate 11 undef).setIfInBounds 3 Value.nilIface) = #[Value.pointer (some ⟨B, 0, none⟩), Value.pointer (some ⟨B + 1, 0, none⟩), Value.pointer (some ⟨B + 1 + 1, 0, none⟩), undef, undef, undef, Value.nilIface, undef, undef, undef, undef, undef, undef, undef] from rfl]
  go_wp2
  cases c₀
  simp_all [bodyPostS, results, Try.results92]
  exact Below.refl _ _
theorem res_tx {tmps : Array Value} {a : Nat} {w : World} {b o : Nat} {cs : List Value} (ht : tmps.getD a undef = .pointer (some ⟨b, o, none⟩)) (h : rowOf w b o 38 = some cs) :
    (oneRes tmps (.cell a 41)).run Try.prog w = .ok (.agg cs.toArray) w := res_cell Try.underlying41 rfl (by kernel_rfl) ht h
theorem tx_row {w : World} {b : Nat} {t : TxV} (h : w.heap[b]? = some (.cells (txC t).toArray 41 (0, 0))) : rowOf w b 0 38 = some (txC t) := by
  rw [rowOf_block h 0 38 (by simp [txC_length])]
  congr 1; simp
  exact List.take_of_length_le (by rw [txC_length]; exact Nat.le_refl _)
def valR (t : TxV) (r : List UInt8) (x : Int) : Value := .tuple #[.agg (txC t).toArray, .string (sB r), .int .i64 x]
theorem read_results {tmps : Array Value} {B : Nat} {t : TxV} {r : List UInt8} {x : Int} {w : World} (h2 : tmps.getD 2 undef = .pointer (some ⟨B, 0, none⟩)) (h3 : tmps.getD 3 undef = .pointer (some ⟨B + 1, 0, none⟩)) (h4 : tmps.getD 4 undef = .pointer (some ⟨B + 1 + 1, 0, none⟩)) (h : RJ B t r x w) :
    (results Try.f60 tmps).run Try.prog w = .ok (valR t r x) w := by
  have c1 : w.cell? ⟨B + 1, 0, none⟩ = some (.string (sB r)) := by rw [cell_of_row _ _ 0 _ _ _ h.rest]; rfl
  have c2 : w.cell? ⟨B + 1 + 1, 0, none⟩ = some (.int .i64 x) := by rw [cell_of_row _ _ 0 _ _ _ h.er]; rfl
  refine res3 Try.results60 (res_tx h2 (tx_row h.tx)) ?_ ?_
  · simp [oneRes, h3, go_sem, c1, asAddr]
  · simp [oneRes, h4, go_sem, c2, asAddr]

end Go.Proofs.Ytahkiabpjfcfdaa
