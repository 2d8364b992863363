/- From the readings of the arguments to the walks. -/
import Derived.Test.YtabikhmaiennpaaLawEnd
import Derived.Test.YtabikhmaiennpaaTreeFull
import Derived.Test.YtabikhmaiennpaaOpenKeys
import Derived.ProofKit
import Derived.OpenShut
namespace Go.Proofs.Ytabikhmaiennpaa
set_option maxRecDepth 100000
open Go.ChangeShapes Go.WideShapes Go.ChangeAt Go.RowKit
set_option linter.unusedVariables false

theorem p3C_eq (a : P3V) : p3C a = rows keyC a.l := by unfold p3C; rfl
theorem trod_p3 {H : Type} {enc : TypeId × Value → H} {w : World} {base : Nat} {spare : Nat → Bool} {held : Bool} {fuel : Nat} {cs : List Value} {x : DataW H × List MemPlace} (h : DataW.trod enc Try.prog w base spare held fuel 24 cs = some x) : ∃ p : P3V, cs = p3C p := by
  obtain ⟨xs, m, _, _, hl, hx, hi⟩ := DataW.trod_array Try.underlying24 h
  rw [show Try.prog.cellsOf 24 = 96 from by kernel_rfl] at hl
  have hk : ∀ i, i < 3 → ∃ k : Key, (cs.drop (i * 32)).take 32 = keyC k := fun i hlt => by
    have h1 := hi i hlt
    rw [show Try.prog.cellsOf 23 = 32 from by kernel_rfl, List.getElem?_eq_getElem (by omega)] at h1
    exact trod_key'' h1
  obtain ⟨k0, h0⟩ := hk 0 (by decide)
  obtain ⟨k1, h1⟩ := hk 1 (by decide)
  obtain ⟨k2, h2⟩ := hk 2 (by decide)
  refine ⟨⟨[k0, k1, k2], rfl⟩, ?_⟩
  rw [p3C_eq]
  show cs = rows keyC [k0, k1, k2]
  rw [rows_cons, rows_cons, rows_one, ← h0, ← h1, ← h2]
  have e0 : (cs.drop 0).take 32 ++ cs.drop 32 = cs := by rw [List.drop_zero]; exact List.take_append_drop 32 cs
  have e1 : (cs.drop 32).take 32 ++ cs.drop 64 = cs.drop 32 := by
    have := List.take_append_drop 32 (cs.drop 32)
    rw [List.drop_drop] at this
    exact this
  have e2 : (cs.drop 64).take 32 = cs.drop 64 := List.take_of_length_le (by rw [List.length_drop]; omega)
  show cs = (cs.drop 0).take 32 ++ ((cs.drop 32).take 32 ++ (cs.drop 64).take 32)
  rw [e2, e1, e0]
theorem treeFull_law {H : Type} {enc : TypeId × Value → H} {base : Nat} (W : World) (v0 v1 : Value) (d0 d1 : DataW H) (p0 p1 : List MemPlace)
    (o0 : Value.okWide Try.prog W .any base 24 v0) (h0 : DataW.Trod enc Try.prog W 0 (fun _ => true) true 24 v0 d0 p0)
    (o1 : Value.okWide Try.prog W .any base 23 v1) (h1 : DataW.Trod enc Try.prog W 0 (fun _ => true) true 23 v1 d1 p1)
    (hsz : (DataW.weightsEach Try.prog [24, 23] [d0, d1]).all (· ≤ reachBytes) = true) :
    Calls Try.prog 3 #[v0, v1] W (LawEnd W) := by
  have hp : ∃ p : P3V, v0 = .agg (p3C p).toArray := by
    have hv' := o0
    simp only [Value.okWide, Try.underlying24] at hv'
    obtain ⟨cs, rfl, _⟩ := hv'
    obtain ⟨fuel, hf⟩ := h0
    obtain ⟨p, hk⟩ := trod_p3 hf
    simp only [Value.cells] at hk
    exact ⟨p, by rw [← hk]⟩
  obtain ⟨p, rfl⟩ := hp
  obtain ⟨k, rfl⟩ := open_key' o1 h1
  exact treeFull_walk p k W

end Go.Proofs.Ytabikhmaiennpaa
