/- Words of thirty-two bits: how the walk's numbers add, turn, mix. No program. -/
import Derived.Test.YtajoeleepdnifaaBox
import Derived.Laws.BitsAllLaws
import Derived.Laws.BitsAll
import Derived.WalkSpells
namespace Go.Proofs.Ytajoeleepdnifaa
set_option maxRecDepth 100000
open Go.RowKit
set_option linter.unusedVariables false

/-- A word as the walk's number: nothing opens it. -/
@[irreducible] def iw (x : UInt32) : Int := (x.toNat : Int)
theorem iw_eq (x : UInt32) : iw x = (x.toNat : Int) := by unfold iw; rfl
theorem u_lt (x : UInt32) : x.toNat < 4294967296 := x.toNat_lt
theorem iw_bounds (x : UInt32) : 0 ≤ iw x ∧ iw x < 4294967296 := by rw [iw_eq]; have := u_lt x; omega
theorem iw_inj {x y : UInt32} (h : iw x = iw y) : x = y := by rw [iw_eq, iw_eq] at h; exact UInt32.toNat_inj.1 (by omega)
theorem u_xor (x y : UInt32) : bits .xor .u32 (iw x) (iw y) = iw (x ^^^ y) := by simp only [iw_eq]; rw [u32_xor_nat _ _ (u_lt x) (u_lt y), UInt32.toNat_xor]
theorem u_and (x y : UInt32) : bits .and .u32 (iw x) (iw y) = iw (x &&& y) := by simp only [iw_eq]; rw [u32_and_nat _ _ (u_lt x) (u_lt y), UInt32.toNat_and]
theorem u_or (x y : UInt32) : bits .or .u32 (iw x) (iw y) = iw (x ||| y) := by simp only [iw_eq]; rw [u32_or_nat _ _ (u_lt x) (u_lt y), UInt32.toNat_or]
theorem u_not (x : UInt32) : bits .xor .u32 4294967295 (iw x) = iw (~~~x) := by
  simp only [iw_eq]
  rw [show (4294967295 : Int) = ((4294967295 : Nat) : Int) from rfl, u32_xor_nat _ _ (by decide) (u_lt x)]
  have h : (4294967295 : UInt32) ^^^ x = ~~~x := by
    apply UInt32.toBitVec_inj.1
    simp only [UInt32.toBitVec_xor, UInt32.toBitVec_not]
    have : (4294967295 : UInt32).toBitVec = BitVec.allOnes 32 := by decide
    rw [this, BitVec.allOnes_xor]
  rw [← h, UInt32.toNat_xor]
  rfl
theorem u_wrap (n : Nat) : IntKind.u32.wrap (n : Int) = ((n % 4294967296 : Nat) : Int) := by simp [IntKind.wrap, IntKind.bits, IntKind.signed]
theorem u_add (x y : UInt32) : IntKind.u32.wrap (iw x + iw y) = iw (x + y) := by
  simp only [iw_eq]
  rw [← Int.natCast_add, u_wrap, UInt32.toNat_add]
theorem u_add' (x y : UInt32) : (iw x + iw y) % 4294967296 = iw (x + y) := by
  rw [← u_add]; simp [IntKind.wrap, IntKind.bits, IntKind.signed]
theorem u_shr3 (x : UInt32) : iw x / (8 : Int) = iw (x >>> 3) := by
  simp only [iw_eq, UInt32.toNat_shiftRight, Nat.shiftRight_eq_div_pow]; simp
theorem u_shr10 (x : UInt32) : iw x / (1024 : Int) = iw (x >>> 10) := by
  simp only [iw_eq, UInt32.toNat_shiftRight, Nat.shiftRight_eq_div_pow]; simp
/-- Turned to the right. -/
def rotr (x : UInt32) (n : Nat) : UInt32 := ⟨x.toBitVec.rotateRight n⟩

end Go.Proofs.Ytajoeleepdnifaa
