/- A region that draws its order, some of whose operations may panic, all with one outcome. No program. -/
import Derived.Test.YtajoeleepdnifaaHReg
namespace Go.Proofs.Ytajoeleepdnifaa
set_option maxRecDepth 100000
open Go.RowKit

/-- As Q; a panic has the outcome T, whatever the slots. -/
def PanicQ (Q : Exit → Act → World → Prop) (T : List PanicEntry → World → Prop) : Exit → Act → World → Prop
  | .normal, a, w => Q .normal a w
  | .panic c, a, w => a.defers = [] ∧ T c w
  | _, _, _ => False
section
variable {P : Program} {Q : Exit → Act → World → Prop} {T : List PanicEntry → World → Prop} {S : World → Prop} {l : List Oper}
theorem PanicQ.normal {a : Act} {w : World} (h : Q .normal a w) : PanicQ Q T .normal a w := h
theorem hreg_begin_p {id : Nat} {a : Act} {w : World} (hT : ∀ c a w, a.defers = [] → T c w → Q (.panic c) a w) (hm : P.follows .mixedOrders = true) (hS : S w.drew)
    (h : S w.drew → wpAnyH P .any l.toArray (PanicQ Q T) S l.length (Array.replicate l.length false) a w.drew) : (Code.region id l.toArray true).wp P Q a w := by
  refine Code.wp_mono (Q := PanicQ Q T) (fun e a w h => ?_) (wp_region_held_drew hm hS ?_)
  · cases e with
    | normal => exact h
    | panic c => exact hT c a w h.1 h.2
    | _ => exact h.elim
  · simpa using h
theorem hreg_panic_p {d : Option Tmp} : ∀ c (a : Act) (v : Value) (w : World), PanicQ Q T (.panic c) (a.put d v) w → PanicQ Q T (.panic c) a w := fun c a v w h => by
  cases d <;> exact h
end
end Go.Proofs.Ytajoeleepdnifaa
