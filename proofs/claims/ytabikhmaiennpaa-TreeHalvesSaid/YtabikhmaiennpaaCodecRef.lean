/- The document's own answers of layer 3. -/
import Derived.Test.YtabikhmaiennpaaCodec4
import Derived.Test.YtabikhmaiennpaaBase
namespace Go.Proofs.Ytabikhmaiennpaa
set_option maxRecDepth 100000
open Go.RowKit
set_option linter.unusedVariables false
set_option linter.unusedSimpArgs false
attribute [local irreducible] Int.lt Int.le
attribute [local go_sem] sB_append le_length
attribute [local go_sem ↓] load_key store_key alloc_key build0_key eq_key
attribute [local go_sem] rowOf_drew rowOf_alloc_old rowOf_alloc_new canPut_drew canPut_alloc_old canPut_alloc_new setCells_alloc_new

theorem append_u8 (ρ : Operand → Value) (dst : Option Tmp) (x y : Operand) (ty : TypeId) (pos : String) (after : Array Edge) (guard : Option (Nat × Bool)) (w : World) :
    (execOp ρ ⟨dst, .call { callee := .builtin .append, args := #[x, y], argTypes := #[51, 51] }, ty, pos, after, guard⟩).run Try.prog w = appTo Try.prog 51 ty w (ρ x) (ρ y) :=
  exec_append _ ty ρ dst x y pos after guard w
/-- A slice of bytes of the call's own. -/
abbrev OwnB (w : World) (base : Nat) (v : Value) (l : List UInt8) : Prop := OwnV w base 5 v (bC l)
theorem app_u8 {w : World} {base : Nat} {v : Value} {l : List UInt8} {ty : TypeId} (hown : OwnB w base v l) (hbase : base ≤ w.heap.size) (x : UInt8) (u : Value) (hu : u = .int .u8 (x.toNat : Int)) (hlen : l.length + 1 ≤ 2000000) :
    ∃ g c' w', appTo Try.prog 51 ty (w.alloc (.cells #[u] 5)) v (.slice (some ⟨w.heap.size, 0, none⟩) 1 1) = .ok (.value (.slice (some ⟨g, 0, none⟩) (l.length + 1) c')) w' ∧ OwnB w' base (.slice (some ⟨g, 0, none⟩) (l.length + 1) c') (l ++ [x]) ∧ Below base w w' ∧ w.heap.size ≤ w'.heap.size := by
  obtain ⟨i, hi, hs, hb, hz⟩ := info_u8
  subst hu
  obtain ⟨g, c', w', h1, h2, h3, h4⟩ := appTo_val' (ty := ty) Try.underlying51 hi hs hb hz rfl (by omega) hown hbase (.int .u8 (x.toNat : Int)) rfl (by rw [bC_length]; exact hlen)
  rw [bC_length] at h1 h2
  refine ⟨g, c', w', h1, ?_, h3, h4⟩
  have e : bC (l ++ [x]) = bC l ++ [.int .u8 (x.toNat : Int)] := by rw [bC_append]; unfold bC; rfl
  show OwnV _ _ _ _ (bC (l ++ [x]))
  rw [e]
  exact h2
/-- 'string(b)' of a slice of the call's own. -/
theorem run_string_own {w : World} {base g n cap : Nat} {l : List UInt8} (h : OwnB w base (.slice (some ⟨g, 0, none⟩) n cap) l) : (convert 51 9 (.slice (some ⟨g, 0, none⟩) n cap)).run Try.prog w = .ok (.string (sB l)) w := by
  have hr := h.row
  rw [bC_length] at hr
  obtain ⟨rfl, _⟩ := hr
  refine run_convert_bytes_back w _ _ 5 ⟨g, 0, none⟩ cap l Try.underlying51 Try.underlying5 Try.underlying9 fun j hj => ?_
  have hl : l[j]? = some l[j] := List.getElem?_eq_getElem hj
  rw [Addr.add_mid, Nat.zero_add]
  exact h.cell (bC_get hl)
attribute [local go_sem ↓] append_u8


theorem unle_append : ∀ (a b : List UInt8), unle (a ++ b) = unle a + 256 ^ a.length * unle b
  | [], b => by simp [unle]
  | x :: a, b => by
    rw [List.cons_append, unle, unle, unle_append a b, List.length_cons, Nat.pow_succ, Nat.mul_add, ← Nat.mul_assoc, Nat.mul_comm 256 (256 ^ a.length)]
    omega
theorem unle_take_succ {l : List UInt8} {i : Nat} (h : i < l.length) : unle (l.take (i + 1)) = unle (l.take i) + 256 ^ i * l[i].toNat := by
  rw [List.take_add_one, List.getElem?_eq_getElem h, unle_append, List.length_take, Nat.min_eq_left (by omega)]
  simp [unle]
theorem wrap_u64 (y : Nat) (h : y < 2 ^ 64) : IntKind.u64.wrap (y : Int) = (y : Int) := by
  simp only [IntKind.wrap, IntKind.bits, IntKind.signed]
  simp
  omega
theorem or_high (x b i : Nat) (hb : b < 256) (hi : i ≤ 7) (hx : x < 256 ^ i) : bits .or .u64 (x : Int) (IntKind.u64.wrap (IntKind.u64.wrap (b : Int) * 2 ^ (8 * i))) = ((x + 256 ^ i * b : Nat) : Int) := by
  have h2 : IntKind.u64.wrap (b : Int) = ((b : Nat) : Int) := by
    simp [IntKind.wrap, IntKind.bits, IntKind.signed]; omega
  have hp : 256 ^ i ≤ 256 ^ 7 := Nat.pow_le_pow_right (by omega) hi
  have hm : b * 256 ^ i < 2 ^ 64 := Nat.lt_of_le_of_lt (Nat.mul_le_mul (by omega : b ≤ 255) hp) (by decide)
  have hx2 : x < 2 ^ 64 := by omega
  have h1 : IntKind.u64.wrap ((b : Int) * 2 ^ (8 * i)) = ((b * 256 ^ i : Nat) : Int) := by
    have e : (b : Int) * 2 ^ (8 * i) = ((b * 256 ^ i : Nat) : Int) := by rw [← pow_two_256]; simp
    rw [e, wrap_u64 _ hm]
  rw [h2, h1]
  have h0 : ∀ A B : Int, bits .or .u64 A B = IntKind.u64.wrap (((BitVec.ofInt 64 A) ||| (BitVec.ofInt 64 B)).toNat : Int) := fun _ _ => rfl
  rw [h0, BitVec.ofInt_natCast, BitVec.ofInt_natCast, BitVec.toNat_or, BitVec.toNat_ofNat, BitVec.toNat_ofNat, Nat.mod_eq_of_lt hx2, Nat.mod_eq_of_lt hm]
  have h3 := Nat.shiftLeft_add_eq_or_of_lt (i := 8 * i) (b := x) (by rw [pow_two_256]; exact hx) b
  rw [Nat.shiftLeft_eq, pow_two_256] at h3
  rw [Nat.or_comm, ← h3]
  have hs : b * 256 ^ i + x < 2 ^ 64 := by
    have h4 : (b + 1) * 256 ^ i ≤ 256 * 256 ^ 7 := Nat.mul_le_mul (by omega) hp
    rw [Nat.add_mul, Nat.one_mul] at h4
    have : 256 * 256 ^ 7 = 2 ^ 64 := by decide
    omega
  rw [Nat.mul_comm (256 ^ i) b, Nat.add_comm x]
  exact wrap_u64 _ hs


end Go.Proofs.Ytabikhmaiennpaa
