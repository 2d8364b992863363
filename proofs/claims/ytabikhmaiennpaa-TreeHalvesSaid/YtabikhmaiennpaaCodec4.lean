/- The contracts of package codec: Key, Bytes. -/
import Derived.Test.YtabikhmaiennpaaCodec3
import Derived.Test.YtabikhmaiennpaaBase
namespace Go.Proofs.Ytabikhmaiennpaa
set_option maxRecDepth 100000
open Go.RowKit
set_option linter.unusedVariables false
set_option linter.unusedSimpArgs false
attribute [local irreducible] Int.lt Int.le
attribute [local go_sem ↓] load_key store_key alloc_key build0_key
attribute [local go_sem] rowOf_drew rowOf_alloc_old rowOf_alloc_new canPut_drew canPut_alloc_old canPut_alloc_new setCells_alloc_new

theorem keyC_bC (k : Key) : keyC k = bC k.val := by unfold keyC bC; rfl


/-- '[]byte(s)'. -/
theorem conv_bytes (w : World) (l : List UInt8) (hl : l.length ≤ 1000000000) : ∃ g cap w', (convert 9 51 (.string (sB l))).run Try.prog w = .ok (.slice (some ⟨g, 0, none⟩) l.length cap) w' ∧ Below w.heap.size w w' ∧ w.heap.size ≤ g ∧ g < w'.heap.size ∧ rowOf w' g 0 l.length = some (bC l) ∧ l.length ≤ cap := by
  have h := run_bytes_of_string (P := Try.prog) w 9 51 5 (sB l) Try.underlying9 Try.underlying51 Try.underlying5
  rw [sB_size] at h
  have hge := grownCap_ge w l.length 0 5
  refine ⟨_, _, _, h, ((Below.refl _ _).drew).alloc (Nat.le_refl _) _, Nat.le_refl _, ?_, ?_, hge⟩
  · rw [World.size_alloc]; exact Nat.lt_succ_self _
  have hb : (w.drew.alloc (.cells (bytesRow (sB l) (grownCap w l.length 0 5)) 5 ((bytesRow (sB l) (grownCap w l.length 0 5)).size, (bytesRow (sB l) (grownCap w l.length 0 5)).size + 1))).heap[w.heap.size]? = some (.cells (bytesRow (sB l) (grownCap w l.length 0 5)) 5 ((bytesRow (sB l) (grownCap w l.length 0 5)).size, (bytesRow (sB l) (grownCap w l.length 0 5)).size + 1)) := heap_alloc_new w.drew _
  rw [rowOf_block hb 0 l.length (by simp [bytesRow, sB])]
  congr 1
  unfold bytesRow bC sB
  simp [Array.extract_append]
  rw [List.take_of_length_le (by simp)]
  rfl

/-- What holds in Key's last region. -/
structure KeyS (b : Nat) (w8 w : World) : Prop where
  since : SinceB b w8 w
  put : canPut w b 0 32 = true
  lt : b < w.heap.size
theorem KeyS.next {b : Nat} {w8 w w' : World} (h : KeyS b w8 w) (hb : Below w.heap.size w w') : KeyS b w8 w' := ⟨h.since.next hb, by rw [canPut_congr (hb.block _ h.lt)]; exact h.put, Nat.lt_of_lt_of_le h.lt hb.size⟩
theorem setCells_size (b : Nat) : ∀ (cs : List Value) (o : Nat) (w : World), (w.setCells b o cs).heap.size = w.heap.size
  | [], o, w => rfl
  | v :: cs, o, w => by
    show ((w.setCell ⟨b, o, none⟩ v).setCells b (o + 1) cs).heap.size = _
    rw [setCells_size b cs]
    simp [World.setCell]
theorem below_setCells {B b : Nat} (hB : B ≤ b) : ∀ (cs : List Value) (o : Nat) (W w : World), Below B W w → Below B W (w.setCells b o cs)
  | [], o, W, w, h => h
  | v :: cs, o, W, w, h => below_setCells hB cs (o + 1) W _ (Below.setCell h hB v)

/-- The key that bytes begin by. -/
def keyOf (s : List UInt8) (h : 32 ≤ s.length) : Key := ⟨s.take 32, by rw [List.length_take]; omega⟩
def keyV (s : List UInt8) : Key × List UInt8 × Int := if h : 32 ≤ s.length then (keyOf s h, s.drop 32, 0) else (zeroKey, [], 30)
def valK (r : Key × List UInt8 × Int) : Value := .tuple #[.agg (keyC r.1).toArray, .string (sB r.2.1), .int .i64 r.2.2]


end Go.Proofs.Ytabikhmaiennpaa
