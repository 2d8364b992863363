/- Layer 5: what Decode and Read come to, in one form for all outcomes. -/
import Derived.Test.YtfnlgihkofkibaaRefRd2
import Derived.Test.YtfnlgihkofkibaaRefSame
import Derived.Test.YtfnlgihkofkibaaTxLaws
namespace Go.Proofs.Ytfnlgihkofkibaa
set_option maxRecDepth 100000
open Go.RowKit
set_option linter.unusedVariables false
set_option linter.unusedSimpArgs false

@[irreducible] def decD (o : Except Int TxD) : TxD := match o with | .ok d => d | .error _ => zeroD
@[irreducible] def decX (o : Except Int TxD) : Int := match o with | .ok _ => 0 | .error x => x
@[irreducible] def rdD (o : Got TxD) : TxD := match o with | .ok (d, _) => d | .error _ => zeroD
@[irreducible] def rdS (o : Got TxD) : List UInt8 := match o with | .ok (_, r) => r | .error _ => []
@[irreducible] def rdX (o : Got TxD) : Int := match o with | .ok _ => 0 | .error x => x
theorem DecTo.any {W : World} {o : Except Int TxD} {e : Ending} {w' : World} (h : DecTo W o e w') : ∃ t, e = .returned (.tuple #[.agg (txC t).toArray, .int .i64 (decX o)]) ∧ TxL w' t (decD o) ∧ Below W.heap.size W w' := by
  cases o with
  | error x => obtain ⟨rfl, hb⟩ := h; exact ⟨zeroTx, by unfold decX; rfl, by unfold decD; exact (TxO.zero 0 _).txl, hb⟩
  | ok d => obtain ⟨t, rfl, hl, hb⟩ := h; exact ⟨t, by unfold decX; rfl, by unfold decD; exact hl, hb⟩
theorem ReadTo.any {W : World} {o : Got TxD} {e : Ending} {w' : World} (h : ReadTo W o e w') : ∃ t, e = .returned (valR t (rdS o) (rdX o)) ∧ TxL w' t (rdD o) ∧ Below W.heap.size W w' := by
  cases o with
  | error x => obtain ⟨rfl, hb⟩ := h; exact ⟨zeroTx, by unfold rdS rdX; rfl, by unfold rdD; exact (TxO.zero 0 _).txl, hb⟩
  | ok p => obtain ⟨d, r⟩ := p; obtain ⟨t, rfl, hl, hb⟩ := h; exact ⟨t, by unfold rdS rdX; rfl, by unfold rdD; exact hl.txl, hb⟩
theorem decD_few (s : List UInt8) : manyB (decD (decR s)) = false := by
  rcases h : decR s with x | d
  · unfold decD; rfl
  · unfold decD; exact (decR_one h).2.2.1
theorem rdD_few (s : List UInt8) : manyB (rdD (txR s)) = false := by
  rcases h : txR s with x | ⟨d, r⟩
  · unfold rdD; rfl
  · unfold rdD; exact (tx_one h).2.2.1
theorem TxL.few {w : World} {t : TxV} {d : TxD} (h : TxL w t d) (hm : manyB d = false) : t.ins.len ≤ 100000 ∧ t.outs.len ≤ 100000 ∧ t.nulls.len ≤ 100000 ∧ t.notes.len ≤ 100000 := by
  obtain ⟨h1, h2, h3, h4⟩ := manyB_false hm
  have := h.ins.1; have := h.outs.1; have := h.nulls.1; have := h.notes.1
  omega
theorem decX_ok {s : List UInt8} {d : TxD} (h : decR s = .ok d) : decX (decR s) = 0 ∧ decD (decR s) = d := by rw [h]; exact ⟨by unfold decX; rfl, by unfold decD; rfl⟩
theorem decX_err {s : List UInt8} {x : Int} (h : decR s = .error x) : decX (decR s) = x ∧ decD (decR s) = zeroD := by rw [h]; exact ⟨by unfold decX; rfl, by unfold decD; rfl⟩
theorem decR_errne {s : List UInt8} {x : Int} (h : decR s = .error x) : ¬ x = 0 := by
  unfold decR at h
  split at h
  · rename_i y hy; injection h with h; subst h; exact txR_errne hy
  · split at h
    · cases h
    · injection h with h; omega
theorem sB_whole (s : ByteArray) : sB s.data.toList = s := by
  apply ByteArray.ext
  simp [sB]
theorem heavyB_false' {t : TxV} (h : heavyB t = false) : t.ins.len ≤ 100000 ∧ t.outs.len ≤ 100000 ∧ t.nulls.len ≤ 100000 ∧ t.notes.len ≤ 100000 := by
  unfold heavyB at h
  simp only [Bool.or_eq_false_iff, decide_eq_false_iff_not] at h
  omega

end Go.Proofs.Ytfnlgihkofkibaa
