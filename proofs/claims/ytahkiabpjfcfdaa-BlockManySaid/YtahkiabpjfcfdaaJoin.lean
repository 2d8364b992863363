/- strings.Join of byte strings. -/
import Derived.Test.YtahkiabpjfcfdaaShelfJ
import Derived.Test.YtahkiabpjfcfdaaBlk
namespace Go.Proofs.Ytahkiabpjfcfdaa
set_option maxRecDepth 100000
open Go.RowKit Go.Shelf
set_option linter.unusedVariables false
theorem join_nil : ∀ (l : List (List UInt8)), Lib.join l [] = l.flatten
  | [] => rfl
  | [x] => by simp [Lib.join]
  | x :: y :: l => by
    have ih := join_nil (y :: l)
    rw [List.flatten_cons, ← ih]
    simp [Lib.join]
theorem join_any (bk c : Nat) (l : List (List UInt8)) (w : World) (hcells : ∀ (j : Nat) x, l[j]? = some x → w.cell? ⟨bk, j, none⟩ = some (.string (sB x))) (hbk : bk < w.heap.size) (hN : l.length ≤ 100) (hcap : l.length ≤ c) (hlen : l.flatten.length ≤ 140737488355328) :
    Calls Try.prog 50 #[.slice (some ⟨bk, 0, none⟩) l.length c, .string ⟨#[]⟩] w (Gives (.string (sB l.flatten)) w) := by
  have hl : (l.map sB).length = l.length := List.length_map _
  have e1 : ((l.map sB).map (·.data.toList)) = l := by
    rw [List.map_map]
    conv => rhs; rw [← List.map_id l]
    exact List.map_congr_left fun x _ => rfl
  have h := Try.strings_Join bk 0 c (l.map sB) ⟨#[]⟩ w (fun j x hx => by
    rw [List.getElem?_map] at hx
    obtain ⟨y, hy, rfl⟩ := Option.map_eq_some_iff.1 hx
    rw [Nat.zero_add]; exact hcells j y hy) hbk (by omega) (by omega) (by rw [e1]; show (Lib.join l []).length ≤ _; rw [join_nil]; exact hlen)
  rw [hl, e1] at h
  refine h.mono ?_
  rintro e w' ⟨rfl, hb⟩
  refine ⟨?_, hb⟩
  show _ = Ending.returned (.string (sB l.flatten))
  rw [← join_nil l]; rfl
end Go.Proofs.Ytahkiabpjfcfdaa
