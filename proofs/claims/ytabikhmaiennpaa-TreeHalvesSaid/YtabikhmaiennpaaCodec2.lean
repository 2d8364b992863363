/- The contracts of package codec: Put, Get, Compact. -/
import Derived.Test.YtabikhmaiennpaaCodec
namespace Go.Proofs.Ytabikhmaiennpaa
set_option maxRecDepth 100000
open Go.RowKit
set_option linter.unusedVariables false
set_option linter.unusedSimpArgs false

theorem sB_append (a b : List UInt8) : sB a ++ sB b = sB (a ++ b) := by
  apply ByteArray.ext
  simp [sB]
theorem sB_nil : (⟨#[]⟩ : ByteArray) = sB [] := rfl
theorem sB_extract (s : List UInt8) (a b : Nat) : (sB s).extract a b = sB ((s.take b).drop a) := by
  apply ByteArray.ext
  rw [ByteArray.data_extract]
  simp [sB, List.extract_eq_take_drop, List.drop_take]
theorem sB_inj {a b : List UInt8} (h : sB a = sB b) : a = b := by
  have := congrArg (fun s => s.data.toList) h
  simpa [sB] using this

def putL (n : Nat) (w : Int) : List UInt8 := if w < 1 ∨ 8 < w then [] else le w.toNat n

@[go_sem] theorem sB_size' (l : List UInt8) : (sB l).size = l.length := sB_size l
@[go_sem] theorem sB_toList (l : List UInt8) : (sB l).toList = l := ByteArray.toList_mk l
/-- '+' of a text written out and bytes. -/
theorem run_add_sB (a b : List UInt8) (h : a.length + b.length ≤ 9223372036854775807) (W : World) : (binOp .add 9 (.string (sB a)) (.string (sB b))).run Try.prog W = .ok (.string (sB (a ++ b))) W := by
  rw [← sB_append]
  exact run_string_add_sum W (sB a) (sB b) (by rw [sB_size, sB_size]; exact h)

@[go_sem ↓] theorem lit_253 : Value.string ⟨#[253]⟩ = .string (sB [253]) := rfl
@[go_sem ↓] theorem lit_254 : Value.string ⟨#[254]⟩ = .string (sB [254]) := rfl
@[go_sem ↓] theorem lit_255 : Value.string ⟨#[255]⟩ = .string (sB [255]) := rfl
theorem sB_get {s : List UInt8} {i : Nat} (h : i < s.length) : (sB s)[i]'(by rw [sB_size]; exact h) = s[i] := by
  show (sB s).data[i] = _
  simp [sB]
theorem or_byte (x b : Nat) (hb : b < 256) (hx : x < 256 ^ 7) : bits .or .u64 (IntKind.u64.wrap ((x : Int) * 256)) (IntKind.u64.wrap (b : Int)) = ((b + 256 * x : Nat) : Int) := by
  have h1 : IntKind.u64.wrap ((x : Int) * 256) = ((x * 256 : Nat) : Int) := by
    simp [IntKind.wrap, IntKind.bits, IntKind.signed]; omega
  have h2 : IntKind.u64.wrap (b : Int) = ((b : Nat) : Int) := by
    simp [IntKind.wrap, IntKind.bits, IntKind.signed]; omega
  rw [h1, h2]
  have h0 : ∀ A B : Int, bits .or .u64 A B = IntKind.u64.wrap (((BitVec.ofInt 64 A) ||| (BitVec.ofInt 64 B)).toNat : Int) := fun _ _ => rfl
  rw [h0, BitVec.ofInt_natCast, BitVec.ofInt_natCast, BitVec.toNat_or, BitVec.toNat_ofNat, BitVec.toNat_ofNat]
  rw [Nat.mod_eq_of_lt (by omega : x * 256 < 2 ^ 64), Nat.mod_eq_of_lt (by omega : b < 2 ^ 64)]
  have h3 := Nat.shiftLeft_add_eq_or_of_lt (i := 8) (b := b) (by omega : b < 2 ^ 8) x
  rw [Nat.shiftLeft_eq, show (2 : Nat) ^ 8 = 256 from rfl] at h3
  rw [← h3]
  simp [IntKind.wrap, IntKind.bits, IntKind.signed]
  omega



def getV (s : List UInt8) (w : Int) : Nat × List UInt8 × Int := if w < 1 ∨ 8 < w then (0, [], 1) else if (s.length : Int) < w then (0, [], 30) else (unle (s.take w.toNat), s.drop w.toNat, 0)
def val3 (r : Nat × List UInt8 × Int) : Value := .tuple #[.int .u64 r.1, .string (sB r.2.1), .int .i64 r.2.2]


theorem putL_nat (n w : Nat) (h : 1 ≤ w) (h8 : w ≤ 8) : putL n (w : Int) = le w n := by unfold putL; rw [if_neg (by omega)]; rfl

end Go.Proofs.Ytabikhmaiennpaa
