/- The lengths of a transaction's lists, by the weights of its datum. -/
import Derived.Test.YtpgaibihfplhcaaOpenTx
import Derived.SizedLaws
namespace Go.Proofs.Ytpgaibihfplhcaa
open Go.RowKit Go.ChangeShapes Go.WideShapes Go.Deep
set_option linter.unusedVariables false
section
variable {H : Type} {enc : TypeId × Value → H} {w : World} {base : Nat} {spare : Nat → Bool} {held : Bool}

theorem slice_sized {P : Program} {fuel : Nat} {t e : TypeId} {a : Option Addr} {n c : Nat} {x : DataW H × List MemPlace} (ht : P.underlying t = some (.slice e)) (hb : 0 < P.bytesOf e) (h : DataW.trod enc P w base spare held fuel t [.slice a n c] = some x) (R : Nat) (hR : ∀ m ∈ x.1.weights P t, m ≤ R) : n ≤ R := by
  rcases DataW.trod_slice ht h with ⟨h1, _⟩ | ⟨a', len, cap, elems, rest, m, _, h1, hx, _, _, _, hl, _⟩
  · simp at h1; omega
  · simp at h1
    obtain ⟨_, rfl, _⟩ := h1
    have := hR ((elems.length + rest.length) * P.bytesOf e) (by rw [hx]; simp [DataW.weights, ht])
    have h2 : n * 1 ≤ (elems.length + rest.length) * P.bytesOf e := Nat.mul_le_mul (by omega) hb
    omega

theorem tx_cut1 (t : TxV) : ((txC t).drop 1).take 1 = [.slice t.ins.a t.ins.len t.ins.cap] := by unfold txC; simp
theorem tx_cut2 (t : TxV) : ((txC t).drop 2).take 1 = [.slice t.outs.a t.outs.len t.outs.cap] := by unfold txC; simp
theorem tx_cut35 (t : TxV) : ((txC t).drop 35).take 1 = [.slice t.nulls.a t.nulls.len t.nulls.cap] := by
  have h : (txC t)[35]? = some (.slice t.nulls.a t.nulls.len t.nulls.cap) := txC_35 t
  obtain ⟨hlt, he⟩ := List.getElem?_eq_some_iff.1 h
  rw [List.drop_eq_getElem_cons hlt, he]; rfl
theorem tx_cut36 (t : TxV) : ((txC t).drop 36).take 1 = [.slice t.notes.a t.notes.len t.notes.cap] := by
  have h : (txC t)[36]? = some (.slice t.notes.a t.notes.len t.notes.cap) := txC_36 t
  obtain ⟨hlt, he⟩ := List.getElem?_eq_some_iff.1 h
  rw [List.drop_eq_getElem_cons hlt, he]; rfl

theorem tx_sized {fuel : Nat} {t : TxV} {x : DataW H × List MemPlace} (h : DataW.trod enc Try.prog w base spare held fuel 47 (txC t) = some x) (R : Nat) (hR : ∀ m ∈ x.1.weights Try.prog 47, m ≤ R) :
    t.ins.len ≤ R ∧ t.outs.len ≤ R ∧ t.nulls.len ≤ R ∧ t.notes.len ≤ R := by
  obtain ⟨xs, n, _, hx, hl, hxl, hf⟩ := DataW.trod_struct Try.underlying47 h
  have hxl' : xs.length = 7 := hxl
  have hw : ∀ (i : Nat) (s : TypeId) (y : DataW H × List MemPlace), i < 7 → ([43, 44, 45, 23, 24, 24, 2] : List TypeId)[i]? = some s → xs[i]? = some y → ∀ m ∈ y.1.weights Try.prog s, m ≤ R := by
    intro i s y hi hs hy m hm
    refine hR m ?_
    rw [hx]
    simp only [DataW.weights, Try.underlying47]
    exact DataW.weights_mem_each (j := i) (t := s) (d := y.1) hs (by rw [List.getElem?_map, hy]; rfl) m hm
  have hy : ∀ i, i < 7 → ∃ y, xs[i]? = some y := fun i hi => ⟨xs[i]'(by omega), List.getElem?_eq_getElem (by omega)⟩
  have h1 := hf 1 _ rfl
  have h2 := hf 2 _ rfl
  have h4 := hf 4 _ rfl
  have h5 := hf 5 _ rfl
  have c1 : Try.prog.cellsOf 44 = 1 := by kernel_rfl
  have c2 : Try.prog.cellsOf 45 = 1 := by kernel_rfl
  have c4 : Try.prog.cellsOf 24 = 1 := by kernel_rfl
  obtain ⟨y1, e1⟩ := hy 1 (by omega)
  obtain ⟨y2, e2⟩ := hy 2 (by omega)
  obtain ⟨y4, e4⟩ := hy 4 (by omega)
  obtain ⟨y5, e5⟩ := hy 5 (by omega)
  rw [e1] at h1; rw [e2] at h2; rw [e4] at h4; rw [e5] at h5
  simp only [List.getElem_toArray, List.getElem_cons_zero, List.getElem_cons_succ] at h1 h2 h4 h5
  rw [c1, tx_cut1] at h1; rw [c2, tx_cut2] at h2; rw [c4] at h4 h5
  rw [tx_cut35] at h4; rw [tx_cut36] at h5
  exact ⟨slice_sized Try.underlying44 (by decide +kernel) h1 R (hw 1 _ _ (by omega) rfl e1), slice_sized Try.underlying45 (by decide +kernel) h2 R (hw 2 _ _ (by omega) rfl e2), slice_sized Try.underlying24 (by decide +kernel) h4 R (hw 4 _ _ (by omega) rfl e4), slice_sized Try.underlying24 (by decide +kernel) h5 R (hw 5 _ _ (by omega) rfl e5)⟩

theorem open_tx_sized {ts : List TypeId} {ds : List (DataW H)} {v : Value} {d : DataW H} {p : List MemPlace} {r : Reach} {b0 : Nat} (hv : Value.okWide Try.prog w r b0 47 v) (h : DataW.Trod enc Try.prog w base spare held 47 v d p)
    (hsz : (DataW.weightsEach Try.prog ts ds).all (· ≤ reachBytes) = true) {j : Nat} (ht : ts[j]? = some 47) (hd : ds[j]? = some d) :
    ∃ (t : TxV) (ins : List PointV) (outs : List OutV) (nulls notes : List Key), v = .agg (txC t).toArray ∧ TxHas w t ins outs nulls notes ∧ t.ins.len ≤ reachBytes ∧ t.outs.len ≤ reachBytes ∧ t.nulls.len ≤ reachBytes ∧ t.notes.len ≤ reachBytes := by
  have h0 := h
  obtain ⟨t, ins, outs, nulls, notes, hc, hh⟩ := open_tx hv h
  subst hc
  obtain ⟨fuel, hf⟩ := h0
  exact ⟨t, ins, outs, nulls, notes, rfl, hh, tx_sized hf reachBytes fun m hm => of_decide_eq_true (List.all_eq_true.1 hsz m (DataW.weights_mem_each ht hd m hm))⟩
end
end Go.Proofs.Ytpgaibihfplhcaa
