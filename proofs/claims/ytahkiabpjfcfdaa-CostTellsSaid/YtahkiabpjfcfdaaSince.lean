/- A region that draws its order, whose operations only read and whose calls make memory of their own alone: one walk of the text's order. No program. -/
import Derived.Test.YtahkiabpjfcfdaaMem
import Derived.Deep.Quiet
namespace Go.Proofs.Ytahkiabpjfcfdaa
set_option maxRecDepth 100000
open Go.RowKit

/-- Below W's heap nothing has turned since W. -/
def Since (W w : World) : Prop := Below W.heap.size W w
theorem since_facts {W w : World} (h : Since W w) : (∀ b o, b < W.heap.size → w.cell? ⟨b, o, none⟩ = W.cell? ⟨b, o, none⟩) ∧ (∀ b o n, b < W.heap.size → rowOf w b o n = rowOf W b o n) ∧ W.heap.size ≤ w.heap.size :=
  ⟨fun b o hb => Below.cell h (p := ⟨b, o, none⟩) hb, fun b o n hb => rowOf_congr (Below.block h b hb) o n, Below.size h⟩

theorem since_below {W w : World} (h : Since W w) : Below W.heap.size W w := h

theorem calls_since {P : Program} {f : FuncId} {args : Array Value} {W w : World} {v : Value} (hw : Since W w) (h : Calls P f args w (Gives v w)) : Calls P f args w fun e w'' => e = .returned v ∧ Since W w'' :=
  h.mono fun _ _ ⟨he, hb⟩ => ⟨he, Below.trans hw (hb.mono (Below.size hw))⟩
theorem calls_same {P : Program} {f : FuncId} {args : Array Value} {W w : World} {v : Value} (hw : Since W w) (h : Calls P f args w fun e w' => e = .returned v ∧ w = w') : Calls P f args w fun e w'' => e = .returned v ∧ Since W w'' :=
  h.mono fun _ _ ⟨he, hb⟩ => ⟨he, hb ▸ hw⟩

section
variable {P : Program} {ops : Array Oper} {C : World → Prop} {Q : Act → Prop} {rest : List Oper} {o : Oper} {a : Act}
theorem wpQuiet_on (hw : Region.wanted o (yielded ops a.tmps) = true) (h : o.quiet P a C (wpQuiet P ops C Q rest)) : wpQuiet P ops C Q (o :: rest) a := by
  unfold wpQuiet; rw [if_pos hw]; exact h
theorem wpQuiet_off (hw : Region.wanted o (yielded ops a.tmps) = false) (h : wpQuiet P ops C Q rest (a.put o.dst undef)) : wpQuiet P ops C Q (o :: rest) a := by
  unfold wpQuiet; rw [if_neg (by simp [hw])]; exact h
def isB : Value → Bool → Bool
  | .bool b, w => b == w
  | _, _ => false
theorem wanted_at {j d : Nat} {want : Bool} {v : Value} (hg : o.guard = some (j, want)) (hd : (ops[j]?).bind (·.dst) = some d) (hv : a.tmps[d]? = some v) : Region.wanted o (yielded ops a.tmps) = isB v want := by
  unfold Region.wanted yielded
  simp only [hg, hd, Option.bind_some, hv]
  cases v <;> rfl
theorem wpQuiet_free (hg : o.guard = none) (h : o.quiet P a C (wpQuiet P ops C Q rest)) : wpQuiet P ops C Q (o :: rest) a :=
  wpQuiet_on (by unfold Region.wanted; rw [hg]) h
theorem wpQuiet_gon {j d : Nat} {want : Bool} {v : Value} (hg : o.guard = some (j, want)) (hd : (ops[j]?).bind (·.dst) = some d) (hv : a.tmps[d]? = some v) (hb : isB v want = true) (h : o.quiet P a C (wpQuiet P ops C Q rest)) : wpQuiet P ops C Q (o :: rest) a :=
  wpQuiet_on (by rw [wanted_at hg hd hv, hb]) h
theorem wpQuiet_goff {j d : Nat} {want : Bool} {v : Value} (hg : o.guard = some (j, want)) (hd : (ops[j]?).bind (·.dst) = some d) (hv : a.tmps[d]? = some v) (hb : isB v want = false) (h : wpQuiet P ops C Q rest (a.put o.dst undef)) : wpQuiet P ops C Q (o :: rest) a :=
  wpQuiet_off (by rw [wanted_at hg hd hv, hb]) h
end
theorem quiet_mk {P : Program} {C : World → Prop} {o : Oper} {a : Act} {next : Act → Prop} (v : Value) (h : ∀ w, C w → Oper.quietUpon P C w v ((execOp a.eval o).run P w)) (hn : next (a.put o.dst v)) : o.quiet P a C next := ⟨v, h, hn⟩
theorem quietUpon_value {P : Program} {C : World → Prop} {w : World} {u v : Value} (h : u = v) : Oper.quietUpon P C w v (.ok (.value u) w) := ⟨rfl, h⟩
theorem quietUpon_enter {P : Program} {C : World → Prop} {w : World} {v : Value} {f : FuncId} {args : Array Value} (h : Calls P f args w fun e w'' => e = .returned v ∧ C w'') : Oper.quietUpon P C w v (.ok (.enter f args) w) := ⟨rfl, h⟩

theorem region_since {P : Program} {id : Nat} {Q : Exit → Act → World → Prop} {a : Act} {W : World} {l : List Oper} (hm : P.follows .mixedOrders = true) (hB : Region.lexB .any l.toArray = true)
    (h : wpQuiet P l.toArray (Since W) (fun a' => ∀ w', Since W w' → Q .normal a' w') l a) : (Code.region id l.toArray true).wp P Q a W :=
  wp_region_quiet (C := Since W) hm hB ((Below.refl _ W).drew) (by simpa using h)

end Go.Proofs.Ytahkiabpjfcfdaa
