/- strings.Builder: what is written goes behind what is there; what lies elsewhere stays. -/
import Derived.Test.YtabikhmaiennpaaShelf
import Derived.Test.YtabikhmaiennpaaCodec4
import Derived.Test.YtabikhmaiennpaaBase
import Derived.Shelf.Strings.BuilderK
namespace Go.Proofs.Ytabikhmaiennpaa
open Go.RowKit Go.Shelf
set_option linter.unusedVariables false
set_option maxRecDepth 100000

theorem lays166 : Go.Proofs.Lays.n166 Try.prog Try.lays105_ren := { Try.lays105 with }
theorem lays169 : Go.Proofs.Lays.n169 Try.prog Try.lays105_ren := { Try.lays105 with }
theorem extra105 : Builder.Extra Try.prog Try.lays105_ren := Try.Builder_Extra_105

/-- A builder at block b that holds these bytes. -/
def Bld (w : World) (b : Nat) (bs : List UInt8) : Prop := Lib.IsBuilderF 66 5 b b (Lib.byteCells bs) w
/-- Below b, and in blocks that are neither b nor rows of bytes, nothing has turned. -/
structure Kp (b : Nat) (w w' : World) : Prop where
  below : Below b w w'
  oth : Lib.OthersKept 5 (some b) w w'

theorem Kp.refl (b : Nat) (w : World) : Kp b w w := ⟨Below.refl _ _, Lib.OthersKept.refl _ _ _⟩
theorem Kp.trans {b : Nat} {w1 w2 w3 : World} (h : Kp b w1 w2) (h' : Kp b w2 w3) : Kp b w1 w3 := ⟨h.below.trans h'.below, h.oth.trans h'.oth⟩
theorem Kp.size {b : Nat} {w w' : World} (h : Kp b w w') : w.heap.size ≤ w'.heap.size := h.below.size
theorem Kp.of {b : Nat} {w w' : World} (h : Below w.heap.size w w') (hb : b ≤ w.heap.size) : Kp b w w' :=
  ⟨h.mono hb, fun k o hk _ _ => by rw [h.block k (Array.getElem?_eq_some_iff.1 hk).1]; exact hk⟩
theorem Kp.alloc {b : Nat} {w w' : World} (h : Kp b w w') (hb : b ≤ w'.heap.size) (ob : Obj) : Kp b w (w'.alloc ob) := h.trans (Kp.of ((Below.refl _ _).alloc (Nat.le_refl _) ob) hb)
theorem Kp.next {b : Nat} {w w' w'' : World} (h : Kp b w w') (hb : b ≤ w'.heap.size) (hn : Below w'.heap.size w' w'') : Kp b w w'' := h.trans (Kp.of hn hb)
/-- A variable of another kind is kept. -/
theorem Kp.heap {b k : Nat} {w w' : World} {c : Array Value} {t : TypeId} {fz : Nat × Nat} (h : Kp b w w') (hk : w.heap[k]? = some (.cells c t fz)) (hb : k ≠ b) (ht : t ≠ 5) : w'.heap[k]? = some (.cells c t fz) :=
  h.oth k _ hk (by simpa using hb) fun c' fz' e => by injection e with e1 e2 e3; exact ht e2

theorem Bld.lt {w : World} {b : Nat} {bs : List UInt8} (h : Bld w b bs) : b < w.heap.size := by
  rcases h with ⟨_, v, hb, _⟩ | ⟨_, v, hb, _⟩ <;> exact (Array.getElem?_eq_some_iff.1 hb).1
theorem Bld.below {w w' : World} {b : Nat} {bs : List UInt8} (h : Bld w b bs) (hb : Below w.heap.size w w') : Bld w' b bs := by
  have key : ∀ p, Lib.BuilderAtF 66 5 b b p (Lib.byteCells bs) w → Lib.BuilderAtF 66 5 b b p (Lib.byteCells bs) w' := by
    rintro p ⟨h0, v, h1, ⟨h2, h3⟩, h4⟩
    refine ⟨h0, v, by rw [hb.block _ (Array.getElem?_eq_some_iff.1 h1).1]; exact h1, ⟨h2, ?_⟩, h4⟩
    rcases h3 with h3 | ⟨g, cap, cur, fz, hv, hg, hh, r⟩
    · exact .inl h3
    · exact .inr ⟨g, cap, cur, fz, hv, hg, by rw [hb.block _ (Array.getElem?_eq_some_iff.1 hh).1]; exact hh, r⟩
  exact h.elim (fun x => .inl (key _ x)) (fun x => .inr (key _ x))
theorem Bld.alloc {w : World} {b : Nat} {bs : List UInt8} (h : Bld w b bs) (ob : Obj) : Bld (w.alloc ob) b bs := h.below ((Below.refl _ _).alloc (Nat.le_refl _) ob)
/-- A new builder. -/
theorem Bld.new (w : World) (b : Nat) (hb : b = w.heap.size) : Bld (w.alloc (.cells #[.pointer none, .slice none 0 0] 66)) b [] := by
  subst hb
  refine .inl ⟨Nat.le_refl _, .slice none 0 0, heap_alloc_new w _, ⟨rfl, .inl ⟨rfl, rfl⟩⟩, ?_⟩
  simp [Value.ownBlock]

theorem ws_any {b : Nat} {bs : List UInt8} (l : List UInt8) {w : World} (h : Bld w b bs) (hlen : bs.length + l.length ≤ 1000000000) :
    Calls Try.prog 32 #[.pointer (some ⟨b, 0, none⟩), .string (sB l)] w fun e w' => e = .returned (.tuple #[.int .i64 l.length, .nilIface]) ∧ Bld w' b (bs ++ l) ∧ Kp b w w' := by
  refine (Any.Builder_WriteString_k lays166 extra105 b b (Lib.byteCells bs) (sB l) w h (by rw [Lib.byteCells_length, sB_size]; omega) (Nat.le_of_lt h.lt)).mono ?_
  rintro e w' ⟨rfl, h1, h2, h3⟩
  refine ⟨by rw [sB_size], .inr ?_, h2, h3⟩
  have e : Lib.strCells (sB l) = Lib.byteCells l := rfl
  rw [Lib.byteCells_append, ← e]
  exact h1
theorem str_any {b : Nat} {bs : List UInt8} {w : World} (h : Bld w b bs) :
    Calls Try.prog 35 #[.pointer (some ⟨b, 0, none⟩)] w fun e w' => e = .returned (.string (sB bs)) ∧ Bld w' b bs ∧ Kp b w w' := by
  refine (Any.Builder_String_any_k lays169 extra105 b b bs w h (Nat.le_of_lt h.lt)).mono ?_
  rintro e w' ⟨rfl, h1, h2, h3⟩
  exact ⟨rfl, h1, h2, h3⟩

end Go.Proofs.Ytabikhmaiennpaa
