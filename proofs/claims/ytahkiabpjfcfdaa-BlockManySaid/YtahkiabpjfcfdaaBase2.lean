/- Keys, transactions, the codec's layer and a transaction's bytes. (printed by mkbase.py 2) -/
import Derived.Test.YtahkiabpjfcfdaaRows
import Derived.WalkKit
import Derived.Test.YtahkiabpjfcfdaaBase
import Derived.Laws.IdiomStrings
import Derived.Laws.MakeOwn
import Derived.WalkSpells
import Derived.WalkLawsBesides
import Derived.Laws.DeepStrings4
import Derived.Lib.Hide
import Derived.Test.YtahkiabpjfcfdaaShelf
import Derived.Shelf.Strings.BuilderK
import Derived.Deep.Slices
import Derived.OpenShut
import Derived.ProofKit

namespace Go.Proofs.Ytahkiabpjfcfdaa
set_option maxRecDepth 100000
open Go.RowKit
/-- The law returned true; below the heap's size at its begin nothing has turned. -/
def LawEnd (W : World) (e : Ending) (w' : World) : Prop := e = .returned (.bool true) ∧ Below W.heap.size W w'
end Go.Proofs.Ytahkiabpjfcfdaa

namespace Go.Proofs.Ytahkiabpjfcfdaa
set_option maxRecDepth 100000
open Go.RowKit
set_option linter.unusedVariables false

/-- The cells of bytes. -/
@[irreducible] def bC (l : List UInt8) : List Value := l.map Extern.Stop.cell
@[go_sem] theorem bC_length (l : List UInt8) : (bC l).length = l.length := by unfold bC; simp
theorem bC_get {l : List UInt8} {i : Nat} {x : UInt8} (h : l[i]? = some x) : (bC l)[i]? = some (.int .u8 (x.toNat : Int)) := by
  unfold bC; rw [List.getElem?_map, h]; rfl
theorem bC_append (a b : List UInt8) : bC (a ++ b) = bC a ++ bC b := by unfold bC; rw [List.map_append]
theorem bC_set (l : List UInt8) (i : Nat) (x : UInt8) : (bC l).set i (.int .u8 (x.toNat : Int)) = bC (l.set i x) := by
  unfold bC
  rw [List.map_set]; rfl
/-- A byte stored into a new block. -/
theorem setCell_bC (w : World) (l : List UInt8) (t : TypeId) (fr : Nat × Nat) (b i : Nat) (x : UInt8) (v : Value) (hv : v = .int .u8 (x.toNat : Int)) (hb : b = w.heap.size) :
    (w.alloc (.cells (bC l).toArray t fr)).setCell ⟨b, i, none⟩ v = w.alloc (.cells (bC (l.set i x)).toArray t fr) := by
  subst hb hv
  rw [← bC_set]
  have hm : ∀ (a : Array Obj) (y : Obj) (f : Obj → Obj), (a.push y).modify a.size f = a.push (f y) := by
    intro a y f
    apply Array.ext
    · simp
    · intro i h1 h2
      simp only [Array.getElem_modify, Array.getElem_push]
      by_cases h : a.size = i
      · subst h
        simp
      · have hi : i < a.size := by simp at h1; omega
        simp [h, hi]
  unfold World.setCell World.alloc
  simp [hm]

def slowMakeB (P : Program) (t : TypeId) (u v : Value) (w : World) : Result Next := (do pure (.value (← Instr.makeSlice t u v)) : Sem Next).run P w
def makeBTo (P : Program) (t e : TypeId) (w : World) (u v : Value) : Result Next :=
  match u, v with
  | .int .i64 k, .int .i64 k' => if k = k' ∧ 0 ≤ k ∧ k ≤ 2000000 then .ok (.value (.slice (some ⟨w.heap.size, 0, none⟩) k.toNat k.toNat)) (w.alloc (.cells (bC (List.replicate k.toNat 0)).toArray e)) else slowMakeB P t u v w
  | u, v => slowMakeB P t u v w
@[go_sem] theorem makeBTo_ok (P : Program) (t e : TypeId) (w : World) (k : Int) :
    makeBTo P t e w (.int .i64 k) (.int .i64 k) = if 0 ≤ k ∧ k ≤ 2000000 then .ok (.value (.slice (some ⟨w.heap.size, 0, none⟩) k.toNat k.toNat)) (w.alloc (.cells (bC (List.replicate k.toNat 0)).toArray e)) else slowMakeB P t (.int .i64 k) (.int .i64 k) w := by
  simp only [makeBTo, true_and]
theorem info_u8 : ∃ i, Try.prog.info? 5 = some i ∧ i.size = 1 ∧ i.bytes = 1 ∧ i.zero = some (.int .u8 0) := by
  have h : (Try.prog.info? 5).map (fun i => (i.size, i.bytes, i.zero)) = some (1, 1, some (.int .u8 0)) := by kernel_rfl
  obtain ⟨i, hi, h'⟩ := Option.map_eq_some_iff.1 h
  simp only [Prod.mk.injEq] at h'
  exact ⟨i, hi, h'.1, h'.2.1, h'.2.2⟩
theorem made_u8 (n : Nat) : madeCells (Value.int .u8 0).cells n = (bC (List.replicate n 0)).toArray := by
  unfold bC
  apply Array.ext
  · simp [size_madeCells]
  · intro i h1 h2
    simp [madeCells, Value.cells, Extern.Stop.cell, Nat.mod_one]
theorem make_u8 (ρ : Operand → Value) (dst : Option Tmp) (x y : Operand) (t' : TypeId) (pos : String) (after : Array Edge) (guard : Option (Nat × Bool)) (w : World) :
    (execOp ρ ⟨dst, .makeSlice 22 x y, t', pos, after, guard⟩).run Try.prog w = makeBTo Try.prog 22 5 w (ρ x) (ρ y) := by
  have hslow : (execOp ρ ⟨dst, .makeSlice 22 x y, t', pos, after, guard⟩).run Try.prog w = slowMakeB Try.prog 22 (ρ x) (ρ y) w := rfl
  rw [hslow]
  unfold makeBTo
  split
  · rename_i k k' hu' hv'
    split
    · rename_i hk
      obtain ⟨rfl, hk0, hk1⟩ := hk
      obtain ⟨i, hi, hs, hb, hz⟩ := info_u8
      rw [hu', hv']
      simp only [slowMakeB, Sem.run_bind, Go.run_make w 22 5 i _ Try.underlying22 hi hz .i64 .i64 k k hk0 (Int.le_refl _) (by rw [hb]; omega) (by omega), hs, Nat.mul_one, made_u8]
      rfl
    · rfl
  · rfl

/-- The string of bytes. -/
def sB (l : List UInt8) : ByteArray := ⟨l.toArray⟩
theorem sB_size (l : List UInt8) : (sB l).size = l.length := by simp [sB, ByteArray.size]
/-- 'string(b)' of a block of bytes. -/
theorem run_string_of (w : World) (b cap : Nat) (l : List UInt8) (t : TypeId) (n : Nat) (hn : n = l.length) (hb : w.heap[b]? = some (.cells (bC l).toArray t)) :
    (convert 22 9 (.slice (some ⟨b, 0, none⟩) n cap)).run Try.prog w = .ok (.string (sB l)) w := by
  subst hn
  refine run_convert_bytes_back w _ _ 5 ⟨b, 0, none⟩ cap l Try.underlying22 Try.underlying5 Try.underlying9 fun j hj => ?_
  have hl : l[j]? = some l[j] := List.getElem?_eq_getElem hj
  have := bC_get hl
  rw [Addr.add_mid, Nat.zero_add, World.cell?]
  simp only [hb]
  simpa using this

end Go.Proofs.Ytahkiabpjfcfdaa

namespace Go.Proofs.Ytahkiabpjfcfdaa
open Go.RowKit
set_option linter.unusedVariables false
set_option linter.unusedSimpArgs false
set_option maxRecDepth 100000
attribute [local go_sem ↓] make_u8

/-- The byte that is stored. -/
theorem byte_at (n i : Nat) : (UInt8.ofNat (n / 256 ^ i)).toNat = n / 256 ^ i % 256 := by simp
theorem pow_two_256 (i : Nat) : 2 ^ (8 * i) = 256 ^ i := by rw [Nat.pow_mul]
/-- The row in the midst of the loop. -/
def midL (w n i : Nat) : List UInt8 := le i n ++ List.replicate (w - i) 0
theorem midL_length {w n i : Nat} (h : i ≤ w) : (midL w n i).length = w := by unfold midL; rw [List.length_append, le_length, List.length_replicate]; omega
theorem midL_zero (w n : Nat) : midL w n 0 = List.replicate w 0 := by unfold midL; simp [le]
theorem midL_all (w n : Nat) : midL w n w = le w n := by unfold midL; simp
theorem midL_set {w n i : Nat} (h : i < w) : (midL w n i).set i (UInt8.ofNat (n / 256 ^ i)) = midL w n (i + 1) := by
  unfold midL
  rw [List.set_append_right _ _ (by rw [le_length]; exact Nat.le_refl _), le_length, Nat.sub_self, show w - i = (w - (i + 1)) + 1 from by omega, List.replicate_succ, List.set_cons_zero, le_succ, List.append_assoc]
  rfl
theorem shr_byte (n i : Nat) : ((n : Int) / 2 ^ (8 * i)) % 256 = ((UInt8.ofNat (n / 256 ^ i)).toNat : Int) := by
  rw [byte_at, ← pow_two_256]
  simp

set_option maxHeartbeats 1000000 in
theorem little_u8 (n w : Nat) (W : World) (hn : n < 256) (hw : 1 ≤ w) (hw8 : w ≤ 8) : Calls Try.prog 78 #[.int .u8 n, .int .i64 w] W (Gives (.string (sB (le w n))) W) := by
  go_enter Try.func78, Try.ntmps78
  go_wp2_with fail
  rw [← midL_zero w n]
  go_loopw [6, 11] (fun _ i wr => ∃ j : Nat, j ≤ w ∧ i = .int .i64 j ∧ wr = W.alloc (.cells (bC (midL w n j)).toArray 5)) (fun _ i _ => w - (intOf i).toNat)
  case atStart => exact ⟨0, Nat.zero_le _, rfl, rfl⟩
  case round =>
    obtain ⟨j, hj, rfl, rfl⟩ := hrel
    by_cases hlt : j < w
    · have hx := midL_length (n := n) hj
      go_wp2_with fail
      refine ⟨⟨j + 1, by omega, by go_num, ?_⟩, by simp [intOf]; omega⟩
      rw [shr_byte, bC_set, midL_set hlt]
    · obtain rfl : j = w := by omega
      go_wp2_with fail
      rw [run_string_of _ _ _ (midL j n j) 5 j (midL_length (Nat.le_refl j)).symm (heap_alloc_new W _), midL_all]
      go_wp2
      go_ret
      exact gives rfl ((Below.refl _ _).alloc (Nat.le_refl _) _)

set_option maxHeartbeats 1000000 in
theorem little_u16 (n w : Nat) (W : World) (hn : n < 65536) (hw : 1 ≤ w) (hw8 : w ≤ 8) : Calls Try.prog 79 #[.int .u16 n, .int .i64 w] W (Gives (.string (sB (le w n))) W) := by
  go_enter Try.func79, Try.ntmps79
  go_wp2_with fail
  rw [← midL_zero w n]
  go_loopw [6, 11] (fun _ i wr => ∃ j : Nat, j ≤ w ∧ i = .int .i64 j ∧ wr = W.alloc (.cells (bC (midL w n j)).toArray 5)) (fun _ i _ => w - (intOf i).toNat)
  case atStart => exact ⟨0, Nat.zero_le _, rfl, rfl⟩
  case round =>
    obtain ⟨j, hj, rfl, rfl⟩ := hrel
    by_cases hlt : j < w
    · have hx := midL_length (n := n) hj
      go_wp2_with fail
      refine ⟨⟨j + 1, by omega, by go_num, ?_⟩, by simp [intOf]; omega⟩
      rw [shr_byte, bC_set, midL_set hlt]
    · obtain rfl : j = w := by omega
      go_wp2_with fail
      rw [run_string_of _ _ _ (midL j n j) 5 j (midL_length (Nat.le_refl j)).symm (heap_alloc_new W _), midL_all]
      go_wp2
      go_ret
      exact gives rfl ((Below.refl _ _).alloc (Nat.le_refl _) _)

set_option maxHeartbeats 1000000 in
theorem little_u32 (n w : Nat) (W : World) (hn : n < 4294967296) (hw : 1 ≤ w) (hw8 : w ≤ 8) : Calls Try.prog 80 #[.int .u32 n, .int .i64 w] W (Gives (.string (sB (le w n))) W) := by
  go_enter Try.func80, Try.ntmps80
  go_wp2_with fail
  rw [← midL_zero w n]
  go_loopw [6, 11] (fun _ i wr => ∃ j : Nat, j ≤ w ∧ i = .int .i64 j ∧ wr = W.alloc (.cells (bC (midL w n j)).toArray 5)) (fun _ i _ => w - (intOf i).toNat)
  case atStart => exact ⟨0, Nat.zero_le _, rfl, rfl⟩
  case round =>
    obtain ⟨j, hj, rfl, rfl⟩ := hrel
    by_cases hlt : j < w
    · have hx := midL_length (n := n) hj
      go_wp2_with fail
      refine ⟨⟨j + 1, by omega, by go_num, ?_⟩, by simp [intOf]; omega⟩
      rw [shr_byte, bC_set, midL_set hlt]
    · obtain rfl : j = w := by omega
      go_wp2_with fail
      rw [run_string_of _ _ _ (midL j n j) 5 j (midL_length (Nat.le_refl j)).symm (heap_alloc_new W _), midL_all]
      go_wp2
      go_ret
      exact gives rfl ((Below.refl _ _).alloc (Nat.le_refl _) _)

set_option maxHeartbeats 1000000 in
theorem little_u64 (n w : Nat) (W : World) (hn : n < 18446744073709551616) (hw : 1 ≤ w) (hw8 : w ≤ 8) : Calls Try.prog 77 #[.int .u64 n, .int .i64 w] W (Gives (.string (sB (le w n))) W) := by
  go_enter Try.func77, Try.ntmps77
  go_wp2_with fail
  rw [← midL_zero w n]
  go_loopw [6, 11] (fun _ i wr => ∃ j : Nat, j ≤ w ∧ i = .int .i64 j ∧ wr = W.alloc (.cells (bC (midL w n j)).toArray 5)) (fun _ i _ => w - (intOf i).toNat)
  case atStart => exact ⟨0, Nat.zero_le _, rfl, rfl⟩
  case round =>
    obtain ⟨j, hj, rfl, rfl⟩ := hrel
    by_cases hlt : j < w
    · have hx := midL_length (n := n) hj
      go_wp2_with fail
      refine ⟨⟨j + 1, by omega, by go_num, ?_⟩, by simp [intOf]; omega⟩
      rw [shr_byte, bC_set, midL_set hlt]
    · obtain rfl : j = w := by omega
      go_wp2_with fail
      rw [run_string_of _ _ _ (midL j n j) 5 j (midL_length (Nat.le_refl j)).symm (heap_alloc_new W _), midL_all]
      go_wp2
      go_ret
      exact gives rfl ((Below.refl _ _).alloc (Nat.le_refl _) _)

end Go.Proofs.Ytahkiabpjfcfdaa

namespace Go.Proofs.Ytahkiabpjfcfdaa
set_option maxRecDepth 100000
open Go.RowKit
set_option linter.unusedVariables false
set_option linter.unusedSimpArgs false

theorem sB_append (a b : List UInt8) : sB a ++ sB b = sB (a ++ b) := by
  apply ByteArray.ext
  simp [sB]
theorem sB_nil : (⟨#[]⟩ : ByteArray) = sB [] := rfl
theorem sB_extract (s : List UInt8) (a b : Nat) : (sB s).extract a b = sB ((s.take b).drop a) := by
  apply ByteArray.ext
  rw [ByteArray.data_extract]
  simp [sB, List.extract_eq_take_drop, List.drop_take]
theorem sB_inj {a b : List UInt8} (h : sB a = sB b) : a = b := by
  have := congrArg (fun s => s.data.toList) h
  simpa [sB] using this

def putL (n : Nat) (w : Int) : List UInt8 := if w < 1 ∨ 8 < w then [] else le w.toNat n

@[go_sem] theorem sB_size' (l : List UInt8) : (sB l).size = l.length := sB_size l
@[go_sem] theorem sB_toList (l : List UInt8) : (sB l).toList = l := ByteArray.toList_mk l
/-- '+' of a text written out and bytes. -/
theorem run_add_sB (a b : List UInt8) (h : a.length + b.length ≤ 9223372036854775807) (W : World) : (binOp .add 9 (.string (sB a)) (.string (sB b))).run Try.prog W = .ok (.string (sB (a ++ b))) W := by
  rw [← sB_append]
  exact run_string_add_sum W (sB a) (sB b) (by rw [sB_size, sB_size]; exact h)

@[go_sem ↓] theorem lit_253 : Value.string ⟨#[253]⟩ = .string (sB [253]) := rfl
@[go_sem ↓] theorem lit_254 : Value.string ⟨#[254]⟩ = .string (sB [254]) := rfl
@[go_sem ↓] theorem lit_255 : Value.string ⟨#[255]⟩ = .string (sB [255]) := rfl
theorem sB_get {s : List UInt8} {i : Nat} (h : i < s.length) : (sB s)[i]'(by rw [sB_size]; exact h) = s[i] := by
  show (sB s).data[i] = _
  simp [sB]
theorem or_byte (x b : Nat) (hb : b < 256) (hx : x < 256 ^ 7) : bits .or .u64 (IntKind.u64.wrap ((x : Int) * 256)) (IntKind.u64.wrap (b : Int)) = ((b + 256 * x : Nat) : Int) := by
  have h1 : IntKind.u64.wrap ((x : Int) * 256) = ((x * 256 : Nat) : Int) := by
    simp [IntKind.wrap, IntKind.bits, IntKind.signed]; omega
  have h2 : IntKind.u64.wrap (b : Int) = ((b : Nat) : Int) := by
    simp [IntKind.wrap, IntKind.bits, IntKind.signed]; omega
  rw [h1, h2]
  have h0 : ∀ A B : Int, bits .or .u64 A B = IntKind.u64.wrap (((BitVec.ofInt 64 A) ||| (BitVec.ofInt 64 B)).toNat : Int) := fun _ _ => rfl
  rw [h0, BitVec.ofInt_natCast, BitVec.ofInt_natCast, BitVec.toNat_or, BitVec.toNat_ofNat, BitVec.toNat_ofNat]
  rw [Nat.mod_eq_of_lt (by omega : x * 256 < 2 ^ 64), Nat.mod_eq_of_lt (by omega : b < 2 ^ 64)]
  have h3 := Nat.shiftLeft_add_eq_or_of_lt (i := 8) (b := b) (by omega : b < 2 ^ 8) x
  rw [Nat.shiftLeft_eq, show (2 : Nat) ^ 8 = 256 from rfl] at h3
  rw [← h3]
  simp [IntKind.wrap, IntKind.bits, IntKind.signed]
  omega

theorem put_any (n : Nat) (w : Int) (W : World) (hn : n < 18446744073709551616) : Calls Try.prog 46 #[.int .u64 n, .int .i64 w] W (Gives (.string (sB (putL n w))) W) := by
  go_enter Try.func46, Try.ntmps46
  by_cases h1 : w < 1
  · have hp : putL n w = [] := by unfold putL; rw [if_pos (.inl h1)]
    rw [hp]
    clear hp
    go_wp2
    go_ret
    exact gives rfl (Below.refl _ _)
  · by_cases h8 : 8 < w
    · have hp : putL n w = [] := by unfold putL; rw [if_pos (.inr h8)]
      rw [hp]
      clear hp
      go_wp2
      go_ret
      exact gives rfl (Below.refl _ _)
    · obtain ⟨m, rfl⟩ : ∃ m : Nat, w = m := ⟨w.toNat, by omega⟩
      have hp : putL n (m : Int) = le m n := by unfold putL; rw [if_neg (by omega)]; rfl
      rw [hp]
      go_wp2_with fail
      refine (little_u64 n m _ hn (by omega) (by omega)).mono ?_
      rintro e w1 ⟨rfl, hb⟩
      go_wp2
      go_ret
      exact gives rfl hb

set_option maxRecDepth 100000 in
theorem compact_any (n : Nat) (W : World) (hn : n < 18446744073709551616) : Calls Try.prog 47 #[.int .u64 n] W (Gives (.string (sB (compactL n))) W) := by
  go_enter Try.func47, Try.ntmps47
  by_cases h1 : n < 253
  · have hp : compactL n = le 1 n := by unfold compactL; rw [if_pos h1]
    rw [hp]
    go_wp2_with fail
    refine (little_u8 n 1 _ (by omega) (by omega) (by omega)).mono ?_
    rintro e w1 ⟨rfl, hb⟩
    go_wp2
    go_ret
    exact gives rfl hb
  · by_cases h2 : n < 65536
    · have hp : compactL n = 253 :: le 2 n := by unfold compactL; rw [if_neg h1, if_pos h2]
      rw [hp]
      replace hp := Lib.hid hp
      have g1 : ¬ (n : Int) < 253 := by omega
      have g2 : (n : Int) < 65536 := by omega
      have g3 : (n : Int) % 65536 = n := by omega
      clear h1 h2
      go_wp2_with fail
      refine (little_u16 n 2 _ (by omega) (by omega) (by omega)).mono ?_
      rintro e w1 ⟨rfl, hb⟩
      have hr := le_length 2 n
      clear hp
      generalize le 2 n = r at *
      go_wp2
      go_ret
      exact gives (by rw [sB_append]; rfl) hb
    · by_cases h3 : n < 4294967296
      · have hp : compactL n = 254 :: le 4 n := by unfold compactL; rw [if_neg h1, if_neg h2, if_pos h3]
        rw [hp]
        replace hp := Lib.hid hp
        have g1 : ¬ (n : Int) < 253 := by omega
        have g2 : ¬ (n : Int) < 65536 := by omega
        have g4 : (n : Int) < 4294967296 := by omega
        clear h1 h2
        go_wp2_with fail
        refine (little_u32 n 4 _ (by omega) (by omega) (by omega)).mono ?_
        rintro e w1 ⟨rfl, hb⟩
        have hr := le_length 4 n
        clear hp
        generalize le 4 n = r at *
        go_wp2
        go_ret
        exact gives (by rw [sB_append]; rfl) hb
      · have hp : compactL n = 255 :: le 8 n := by unfold compactL; rw [if_neg h1, if_neg h2, if_neg h3]
        rw [hp]
        replace hp := Lib.hid hp
        have g1 : ¬ (n : Int) < 253 := by omega
        have g2 : ¬ (n : Int) < 65536 := by omega
        have g4 : ¬ (n : Int) < 4294967296 := by omega
        clear h1 h2
        go_wp2_with fail
        refine (little_u64 n 8 _ (by omega) (by omega) (by omega)).mono ?_
        rintro e w1 ⟨rfl, hb⟩
        have hr := le_length 8 n
        clear hp
        generalize le 8 n = r at *
        go_wp2
        go_ret
        exact gives (by rw [sB_append]; rfl) hb

def getV (s : List UInt8) (w : Int) : Nat × List UInt8 × Int := if w < 1 ∨ 8 < w then (0, [], 1) else if (s.length : Int) < w then (0, [], 30) else (unle (s.take w.toNat), s.drop w.toNat, 0)
def val3 (r : Nat × List UInt8 × Int) : Value := .tuple #[.int .u64 r.1, .string (sB r.2.1), .int .i64 r.2.2]

set_option maxHeartbeats 1000000 in
theorem get_any (s : List UInt8) (w : Int) (W : World) : Calls Try.prog 56 #[.string (sB s), .int .i64 w] W (Gives (val3 (getV s w)) W) := by
  have hsz := sB_size s
  go_enter Try.func56, Try.ntmps56
  by_cases h1 : w < 1
  · have hp : getV s w = (0, [], 1) := by unfold getV; rw [if_pos (.inl h1)]
    rw [hp]
    clear hp
    go_wp2
    refine bodyPost_ret (v := val3 (0, [], 1)) (by simp [results, Try.results56, go_sem, val3]; try rfl) rfl ?_
    exact gives rfl (Below.refl _ _)
  · by_cases h8 : 8 < w
    · have hp : getV s w = (0, [], 1) := by unfold getV; rw [if_pos (.inr h8)]
      rw [hp]
      clear hp
      go_wp2
      refine bodyPost_ret (v := val3 (0, [], 1)) (by simp [results, Try.results56, go_sem, val3]; try rfl) rfl ?_
      exact gives rfl (Below.refl _ _)
    · obtain ⟨m, rfl⟩ : ∃ m : Nat, w = m := ⟨w.toNat, by omega⟩
      by_cases hl : (s.length : Int) < m
      · have hp : getV s m = (0, [], 30) := by unfold getV; rw [if_neg (by omega), if_pos hl]
        rw [hp]
        clear hp
        go_wp2
        refine bodyPost_ret (v := val3 (0, [], 30)) (by simp [results, Try.results56, go_sem, val3]; try rfl) rfl ?_
        exact gives rfl (Below.refl _ _)
      · have hp : getV s m = (unle (s.take m), s.drop m, 0) := by unfold getV; rw [if_neg (by omega), if_neg hl]; rfl
        rw [hp]
        clear hp
        go_wp2_with fail
        go_loopw [7, 8] (fun v i wr => wr = W ∧ ∃ j : Nat, j ≤ m ∧ i = .int .i64 ((j : Int) - 1) ∧ v = .int .u64 (unle ((s.take m).drop j))) (fun _ i _ => (intOf i + 1).toNat)
        case atStart => exact ⟨rfl, m, Nat.le_refl _, rfl, by rw [List.drop_eq_nil_of_le (by simp; omega)]; rfl⟩
        case round =>
          obtain ⟨rfl, j, hj, rfl, rfl⟩ := hrel
          by_cases hlt : 1 ≤ j
          · obtain ⟨i, rfl⟩ : ∃ i, j = i + 1 := ⟨j - 1, by omega⟩
            go_wp2_with fail
            have hil : i < s.length := by omega
            have hd : (s.take m).drop i = s[i] :: (s.take m).drop (i + 1) := by rw [List.drop_eq_getElem_cons (by simp; omega)]; simp
            have hlt := unle_lt ((s.take m).drop (i + 1))
            have hlt2 : 256 ^ ((s.take m).drop (i + 1)).length ≤ 256 ^ 7 := Nat.pow_le_pow_right (by omega) (by simp; omega)
            refine ⟨⟨trivial, i, by omega, rfl, ?_⟩, by simp [intOf]⟩
            rw [hd, unle, sB_get hil, or_byte _ _ s[i].toNat_lt (by omega)]
          · obtain rfl : j = 0 := by omega
            go_wp2_with fail
            (refine region_since (by kernel_rfl) (by kernel_rfl) ?_)
            repeat (first
              | (refine wpQuiet_goff rfl rfl rfl rfl ?_; simp only [Act.put, List.setIfInBounds_toArray, List.set_cons_succ, List.set_cons_zero])
              | (first
                   | refine wpQuiet_free rfl ?_
                   | refine wpQuiet_gon rfl rfl rfl rfl ?_
                 apply Exists.intro
                 refine ⟨fun w' hw' => ?_, ?_⟩
                 · (obtain ⟨hc', hr', hs'⟩ := since_facts hw'
                    unfold Oper.quietAt
                    go_simp
                    try go_bits
                    first
                      | exact quietUpon_value rfl
                      | exact rfl
                      | (apply quietUpon_enter
                         first
                         | fail))
                 simp only [Act.put, List.setIfInBounds_toArray, List.set_cons_succ, List.set_cons_zero]))
            first
              | refine wpQuiet_nil ?_
              | fail "QUIET stopped"
            intro wq hwq'
            go_wp2
            refine bodyPost_ret (v := val3 (unle (s.take m), s.drop m, 0)) (by simp [results, Try.results56, go_sem, val3, sB_extract]) rfl ?_
            exact gives rfl hwq'
theorem putL_nat (n w : Nat) (h : 1 ≤ w) (h8 : w ≤ 8) : putL n (w : Int) = le w n := by unfold putL; rw [if_neg (by omega)]; rfl

end Go.Proofs.Ytahkiabpjfcfdaa

namespace Go.Proofs.Ytahkiabpjfcfdaa
set_option maxRecDepth 100000
open Go.RowKit

def zeroKey : Key := ⟨List.replicate 32 0, by simp⟩
theorem load_key (ρ : Operand → Value) (dst : Option Tmp) (x : Operand) (t : TypeId) (pos : String) (after : Array Edge) (guard : Option (Nat × Bool)) (w : World) :
    (execOp ρ ⟨dst, .load 38 x, t, pos, after, guard⟩).run Try.prog w = loadTo Try.prog 38 32 w (ρ x) :=
  exec_load Try.underlying38 rfl (by kernel_rfl) ρ dst x t pos after guard w
theorem store_key (ρ : Operand → Value) (dst : Option Tmp) (a x : Operand) (t : TypeId) (pos : String) (after : Array Edge) (guard : Option (Nat × Bool)) (w : World) :
    (execOp ρ ⟨dst, .store 38 a x, t, pos, after, guard⟩).run Try.prog w = storeTo Try.prog 38 32 w (ρ a) (ρ x) :=
  exec_store (by kernel_rfl) ρ dst a x t pos after guard w
theorem alloc_key (ρ : Operand → Value) (dst : Option Tmp) (t : TypeId) (pos : String) (after : Array Edge) (guard : Option (Nat × Bool)) (w : World) :
    (execOp ρ ⟨dst, .alloc 38, t, pos, after, guard⟩).run Try.prog w = .ok (.value (.pointer (some ⟨w.heap.size, 0, none⟩))) (w.alloc (.cells (keyC zeroKey).toArray 38)) :=
  exec_alloc (by kernel_rfl) ρ dst t pos after guard w
theorem build0_key (ρ : Operand → Value) (dst : Option Tmp) (t : TypeId) (pos : String) (after : Array Edge) (guard : Option (Nat × Bool)) (w : World) :
    (execOp ρ ⟨dst, .build 38 #[], t, pos, after, guard⟩).run Try.prog w = .ok (.value (.agg (keyC zeroKey).toArray)) w :=
  exec_build0 (fun w => by kernel_rfl) ρ dst t pos after guard w
theorem info_key : ∃ i, Try.prog.info? 38 = some i ∧ i.size = 32 ∧ i.zero = some (.agg (keyC zeroKey).toArray) := by
  have h : (Try.prog.info? 38).map (fun i => (i.size, i.zero)) = some (32, some (.agg (keyC zeroKey).toArray)) := by kernel_rfl
  obtain ⟨i, hi, h'⟩ := Option.map_eq_some_iff.1 h
  exact ⟨i, hi, congrArg Prod.fst h', congrArg Prod.snd h'⟩
theorem one_key (ρ : Operand → Value) (dst : Option Tmp) (x : Operand) (t : TypeId) (pos : String) (after : Array Edge) (guard : Option (Nat × Bool)) (w : World) :
    (execOp ρ ⟨dst, .buildSlice 39 1 #[(0, x)], t, pos, after, guard⟩).run Try.prog w = oneTo Try.prog 39 38 32 w (ρ x) := by
  obtain ⟨i, hi, hs, hz⟩ := info_key
  exact exec_one Try.underlying39 hi hs (by omega) (by omega) hz (by simp [go_sem]) ρ dst x t pos after guard w
theorem eq_key (ρ : Operand → Value) (op : BinOp) (dst : Option Tmp) (x y : Operand) (ty2 t : TypeId) (pos : String) (after : Array Edge) (guard : Option (Nat × Bool)) (w : World) :
    (execOp ρ ⟨dst, .binOp op 38 x y ty2, t, pos, after, guard⟩).run Try.prog w = eqTo Try.prog op 38 x y w (ρ x) (ρ y) := exec_eq op _ ρ dst x y ty2 t pos after guard w
theorem sizeOf_u8 (w : World) : (sizeOf 5).run Try.prog w = .ok 1 w := by kernel_rfl
@[go_sem] theorem eqTo_eql_key (x y : Operand) (w : World) (a b : Key) : eqTo Try.prog .eql 38 x y w (.agg (keyC a).toArray) (.agg (keyC b).toArray) = .ok (.value (.bool (a == b))) w :=
  eqTo_key Try.underlying38 Try.underlying5 sizeOf_u8 (by kernel_rfl) x y w a b
@[go_sem] theorem eqTo_neql_key (x y : Operand) (w : World) (a b : Key) : eqTo Try.prog .neq 38 x y w (.agg (keyC a).toArray) (.agg (keyC b).toArray) = .ok (.value (.bool (!(a == b)))) w :=
  eqTo_neq_key Try.underlying38 Try.underlying5 sizeOf_u8 (by kernel_rfl) x y w a b

end Go.Proofs.Ytahkiabpjfcfdaa

namespace Go.Proofs.Ytahkiabpjfcfdaa
set_option maxRecDepth 100000
open Go.RowKit
set_option linter.unusedVariables false
set_option linter.unusedSimpArgs false

def slowVar (P : Program) (ty : TypeId) (a : Addr) (w : World) : Result Value := (loadVar ty a).run P w
def varGot (slow : Result Value) (w : World) : Option (List Value) → Result Value
  | some cs => .ok (.agg cs.toArray) w
  | none => slow
@[go_sem] theorem varGot_some (slow : Result Value) (w : World) (cs : List Value) : varGot slow w (some cs) = .ok (.agg cs.toArray) w := rfl
theorem run_loadVar_rowOf {P : Program} {ty n : Nat} {d : TypeDesc} (hu : P.underlying ty = some d) (hd : d.isRow = true) (hi : (P.info? ty).map (·.size) = some n) (w : World) (b o : Nat) :
    (loadVar ty ⟨b, o, none⟩).run P w = varGot (slowVar P ty ⟨b, o, none⟩ w) w (rowOf w b o n) := by
  cases h : rowOf w b o n with
  | none => rfl
  | some cs =>
    obtain ⟨h1, h2⟩ := rowOf_some.1 h
    exact run_loadVar_mid w b o ty cs d h2 hu hd (by rw [hi, h1])
theorem run_loadVar_row {P : Program} {ty n : Nat} {d : TypeDesc} (hu : P.underlying ty = some d) (hd : d.isRow = true) (hi : (P.info? ty).map (·.size) = some n) {w : World} {b o : Nat} {cs : List Value} (h : rowOf w b o n = some cs) :
    (loadVar ty ⟨b, o, none⟩).run P w = .ok (.agg cs.toArray) w := by
  rw [run_loadVar_rowOf hu hd hi w b o, h]; rfl
/-! ### A function's results, one by one -/
def oneRes (tmps : Array Value) : ResultVar → Sem Value
  | .tmp t => pure (tmps.getD t undef)
  | .cell a t => do loadVar t (← asAddr (tmps.getD a undef))
theorem res1 {P : Program} {fn : Func} {tmps : Array Value} {w : World} {r1 : ResultVar} {v1 : Value} (h : fn.results = #[r1]) (h1 : (oneRes tmps r1).run P w = .ok v1 w) : (results fn tmps).run P w = .ok v1 w := by
  have e : results fn tmps = (do let vs ← fn.results.mapM (oneRes tmps); pure (if h : vs.size = 1 then vs[0] else .tuple vs)) := rfl
  rw [e, h]
  simp [h1]
theorem res2 {P : Program} {fn : Func} {tmps : Array Value} {w : World} {r1 r2 : ResultVar} {v1 v2 : Value} (h : fn.results = #[r1, r2]) (h1 : (oneRes tmps r1).run P w = .ok v1 w) (h2 : (oneRes tmps r2).run P w = .ok v2 w) : (results fn tmps).run P w = .ok (.tuple #[v1, v2]) w := by
  have e : results fn tmps = (do let vs ← fn.results.mapM (oneRes tmps); pure (if h : vs.size = 1 then vs[0] else .tuple vs)) := rfl
  rw [e, h]
  simp [h1, h2]
theorem res_cell {P : Program} {ty n : Nat} {d : TypeDesc} {tmps : Array Value} {a : Nat} {w : World} {b o : Nat} {cs : List Value} (hu : P.underlying ty = some d) (hd : d.isRow = true) (hi : (P.info? ty).map (·.size) = some n)
    (ht : tmps.getD a undef = .pointer (some ⟨b, o, none⟩)) (h : rowOf w b o n = some cs) : (oneRes tmps (.cell a ty)).run P w = .ok (.agg cs.toArray) w := by
  simp only [oneRes, ht, asAddr, pure_bind]
  exact run_loadVar_row hu hd hi h
theorem res_key {tmps : Array Value} {a : Nat} {w : World} {b o : Nat} {cs : List Value} (ht : tmps.getD a undef = .pointer (some ⟨b, o, none⟩)) (h : rowOf w b o 32 = some cs) :
    (oneRes tmps (.cell a 38)).run Try.prog w = .ok (.agg cs.toArray) w := res_cell Try.underlying38 rfl (by kernel_rfl) ht h

theorem res3 {P : Program} {fn : Func} {tmps : Array Value} {w : World} {r1 r2 r3 : ResultVar} {v1 v2 v3 : Value} (h : fn.results = #[r1, r2, r3]) (h1 : (oneRes tmps r1).run P w = .ok v1 w) (h2 : (oneRes tmps r2).run P w = .ok v2 w) (h3 : (oneRes tmps r3).run P w = .ok v3 w) : (results fn tmps).run P w = .ok (.tuple #[v1, v2, v3]) w := by
  have e : results fn tmps = (do let vs ← fn.results.mapM (oneRes tmps); pure (if h : vs.size = 1 then vs[0] else .tuple vs)) := rfl
  rw [e, h]
  simp [h1, h2, h3]

end Go.Proofs.Ytahkiabpjfcfdaa

namespace Go.Proofs.Ytahkiabpjfcfdaa
attribute [local irreducible] Int.lt Int.le
set_option maxRecDepth 100000
open Go.RowKit
set_option linter.unusedVariables false
set_option linter.unusedSimpArgs false

@[go_sem] theorem sB_get0 (b : UInt8) (l : List UInt8) (h : 0 < (sB (b :: l)).size) : (sB (b :: l))[0]'h = b := rfl
@[go_sem] theorem sB_tail (b : UInt8) (l : List UInt8) : (sB (b :: l)).extract 1 (l.length + 1) = sB l := by rw [sB_extract]; simp
def errOf (n : Nat) : Int := if n = 0 then 0 else if n = 1 then 30 else 31
def readV (s : List UInt8) : Nat × List UInt8 × Int := ((readL s).1, (readL s).2.1, errOf (readL s).2.2)
theorem readV_low {b : UInt8} {l : List UInt8} (h : b.toNat < 253) : readV (b :: l) = (b.toNat, l, 0) := by simp [readV, readL, h, errOf]
theorem readV_short {b : UInt8} {l : List UInt8} (h : ¬ b.toNat < 253) (h1 : l.length < widthOf b) : readV (b :: l) = (0, [], 30) := by simp [readV, readL, h, h1, errOf]
theorem readV_long {b : UInt8} {l : List UInt8} (h : ¬ b.toNat < 253) (h1 : ¬ l.length < widthOf b) (h2 : unle (l.take (widthOf b)) < leastOf b) : readV (b :: l) = (0, [], 31) := by simp [readV, readL, h, h1, h2, errOf]
theorem readV_well {b : UInt8} {l : List UInt8} (h : ¬ b.toNat < 253) (h1 : ¬ l.length < widthOf b) (h2 : ¬ unle (l.take (widthOf b)) < leastOf b) : readV (b :: l) = (unle (l.take (widthOf b)), l.drop (widthOf b), 0) := by simp [readV, readL, h, h1, h2, errOf]
theorem getV_short {l : List UInt8} {w : Nat} (h : 1 ≤ w) (h8 : w ≤ 8) (hl : l.length < w) : getV l w = (0, [], 30) := by unfold getV; rw [if_neg (by omega), if_pos (by omega)]
theorem getV_well {l : List UInt8} {w : Nat} (h : 1 ≤ w) (h8 : w ≤ 8) (hl : ¬ l.length < w) : getV l w = (unle (l.take w), l.drop w, 0) := by unfold getV; rw [if_neg (by omega), if_neg (by omega)]; rfl

set_option maxHeartbeats 2000000 in
set_option maxRecDepth 100000 in
theorem read_any (s : List UInt8) (W : World) (hs : s.length ≤ 1000000000) : Calls Try.prog 58 #[.string (sB s)] W (Gives (val3 (readV s)) W) := by
  cases s with
  | nil =>
    rw [show readV [] = (0, [], 30) from rfl]
    go_enter Try.func58, Try.ntmps58
    go_wp2
    refine bodyPost_ret (v := val3 (0, [], 30)) (by simp [results, Try.results58, go_sem, val3]; try rfl) rfl ?_
    exact gives rfl (Below.refl _ _)
  | cons b l =>
    have hsz := sB_size (b :: l)
    have hb : b.toNat < 256 := b.toNat_lt
    simp only [List.length_cons] at hs hsz
    go_enter Try.func58, Try.ntmps58
    by_cases hlow : b.toNat < 253
    · rw [readV_low hlow]
      have g1 : ((b.toNat : Int) == 255) = false := by simp; omega
      have g2 : ((b.toNat : Int) == 254) = false := by simp; omega
      have g3 : ((b.toNat : Int) == 253) = false := by simp; omega
      have g4 : (1 : Int) ≤ (l.length : Int) + 1 := by omega
      have g5 : (0 : Int) < (l.length : Int) + 1 := by omega
      go_wp2_with fail
      (refine region_since (by kernel_rfl) (by kernel_rfl) ?_)
      repeat (first
        | (refine wpQuiet_goff rfl rfl rfl rfl ?_; simp only [Act.put, List.setIfInBounds_toArray, List.set_cons_succ, List.set_cons_zero])
        | (first
             | refine wpQuiet_free rfl ?_
             | refine wpQuiet_gon rfl rfl rfl rfl ?_
           apply Exists.intro
           refine ⟨fun w' hw' => ?_, ?_⟩
           · (obtain ⟨hc', hr', hs'⟩ := since_facts hw'
              unfold Oper.quietAt
              go_simp
              try go_bits
              first
                | exact quietUpon_value rfl
                | exact rfl
                | (apply quietUpon_enter
                   first
                   | fail))
           simp only [Act.put, List.setIfInBounds_toArray, List.set_cons_succ, List.set_cons_zero]))
      first
        | refine wpQuiet_nil ?_
        | fail "QUIET stopped"
      intro wq hwq'
      go_wp2
      refine bodyPost_ret (v := val3 (b.toNat, l, 0)) (by simp [results, Try.results58, go_sem, val3]) rfl ?_
      exact gives rfl hwq'
    · rcases byte_high hlow with rfl | rfl | rfl
      · have hlit : (253 : UInt8).toNat = 253 := rfl
        go_wp2_with fail
        refine (get_any l 2 _).mono ?_
        rintro e w1 ⟨rfl, hb1⟩
        by_cases hl : l.length < 2
        · have hR := Lib.hid (readV_short hlow hl)
          rw [show ((2 : Int)) = ((2 : Nat) : Int) from rfl, getV_short (by omega) (by omega) hl]
          simp only [val3]
          go_wp2
          refine bodyPost_ret (v := val3 (0, [], 30)) (by simp [results, Try.results58, go_sem, val3]; try rfl) rfl ?_
          exact gives (by rw [hR.out]) hb1
        · rw [show ((2 : Int)) = ((2 : Nat) : Int) from rfl, getV_well (by omega) (by omega) hl]
          have hlt := unle_lt (l.take 2)
          rw [List.length_take, Nat.min_eq_left (by omega)] at hlt
          by_cases hlo : unle (l.take 2) < 253
          · have hR := Lib.hid (readV_long hlow hl hlo)
            obtain ⟨n, hn⟩ : ∃ n, n = unle (l.take 2) := ⟨_, rfl⟩
            rw [← hn] at hlo ⊢
            have hlo' : (n : Int) < 253 := by omega
            clear hlo hlt
            replace hn := Lib.hid hn
            simp only [val3]
            go_wp2
            refine bodyPost_ret (v := val3 (0, [], 31)) (by simp [results, Try.results58, go_sem, val3]; try rfl) rfl ?_
            exact gives (by rw [hR.out]) hb1
          · have hR := Lib.hid (readV_well hlow hl hlo)
            obtain ⟨n, hn⟩ : ∃ n, n = unle (l.take 2) := ⟨_, rfl⟩
            rw [← hn] at hlo ⊢
            have hlo' : ¬ (n : Int) < 253 := by omega
            clear hlo hlt
            replace hn := Lib.hid hn
            simp only [val3]
            go_wp2
            refine bodyPost_ret (v := val3 (n, l.drop 2, 0)) (by simp [results, Try.results58, go_sem, val3]; try rfl) rfl ?_
            exact gives (by rw [hR.out, hn.out]; rfl) hb1
      · have hlit : (254 : UInt8).toNat = 254 := rfl
        go_wp2_with fail
        refine (get_any l 4 _).mono ?_
        rintro e w1 ⟨rfl, hb1⟩
        by_cases hl : l.length < 4
        · have hR := Lib.hid (readV_short hlow hl)
          rw [show ((4 : Int)) = ((4 : Nat) : Int) from rfl, getV_short (by omega) (by omega) hl]
          simp only [val3]
          go_wp2
          refine bodyPost_ret (v := val3 (0, [], 30)) (by simp [results, Try.results58, go_sem, val3]; try rfl) rfl ?_
          exact gives (by rw [hR.out]) hb1
        · rw [show ((4 : Int)) = ((4 : Nat) : Int) from rfl, getV_well (by omega) (by omega) hl]
          have hlt := unle_lt (l.take 4)
          rw [List.length_take, Nat.min_eq_left (by omega)] at hlt
          by_cases hlo : unle (l.take 4) < 65536
          · have hR := Lib.hid (readV_long hlow hl hlo)
            obtain ⟨n, hn⟩ : ∃ n, n = unle (l.take 4) := ⟨_, rfl⟩
            rw [← hn] at hlo ⊢
            have hlo' : (n : Int) < 65536 := by omega
            clear hlo hlt
            replace hn := Lib.hid hn
            simp only [val3]
            go_wp2
            refine bodyPost_ret (v := val3 (0, [], 31)) (by simp [results, Try.results58, go_sem, val3]; try rfl) rfl ?_
            exact gives (by rw [hR.out]) hb1
          · have hR := Lib.hid (readV_well hlow hl hlo)
            obtain ⟨n, hn⟩ : ∃ n, n = unle (l.take 4) := ⟨_, rfl⟩
            rw [← hn] at hlo ⊢
            have hlo' : ¬ (n : Int) < 65536 := by omega
            clear hlo hlt
            replace hn := Lib.hid hn
            simp only [val3]
            go_wp2
            refine bodyPost_ret (v := val3 (n, l.drop 4, 0)) (by simp [results, Try.results58, go_sem, val3]; try rfl) rfl ?_
            exact gives (by rw [hR.out, hn.out]; rfl) hb1
      · have hlit : (255 : UInt8).toNat = 255 := rfl
        go_wp2_with fail
        refine (get_any l 8 _).mono ?_
        rintro e w1 ⟨rfl, hb1⟩
        by_cases hl : l.length < 8
        · have hR := Lib.hid (readV_short hlow hl)
          rw [show ((8 : Int)) = ((8 : Nat) : Int) from rfl, getV_short (by omega) (by omega) hl]
          simp only [val3]
          go_wp2
          refine bodyPost_ret (v := val3 (0, [], 30)) (by simp [results, Try.results58, go_sem, val3]; try rfl) rfl ?_
          exact gives (by rw [hR.out]) hb1
        · rw [show ((8 : Int)) = ((8 : Nat) : Int) from rfl, getV_well (by omega) (by omega) hl]
          have hlt := unle_lt (l.take 8)
          rw [List.length_take, Nat.min_eq_left (by omega)] at hlt
          by_cases hlo : unle (l.take 8) < 4294967296
          · have hR := Lib.hid (readV_long hlow hl hlo)
            obtain ⟨n, hn⟩ : ∃ n, n = unle (l.take 8) := ⟨_, rfl⟩
            rw [← hn] at hlo ⊢
            have hlo' : (n : Int) < 4294967296 := by omega
            clear hlo hlt
            replace hn := Lib.hid hn
            simp only [val3]
            go_wp2
            refine bodyPost_ret (v := val3 (0, [], 31)) (by simp [results, Try.results58, go_sem, val3]; try rfl) rfl ?_
            exact gives (by rw [hR.out]) hb1
          · have hR := Lib.hid (readV_well hlow hl hlo)
            obtain ⟨n, hn⟩ : ∃ n, n = unle (l.take 8) := ⟨_, rfl⟩
            rw [← hn] at hlo ⊢
            have hlo' : ¬ (n : Int) < 4294967296 := by omega
            clear hlo hlt
            replace hn := Lib.hid hn
            simp only [val3]
            go_wp2
            refine bodyPost_ret (v := val3 (n, l.drop 8, 0)) (by simp [results, Try.results58, go_sem, val3]; try rfl) rfl ?_
            exact gives (by rw [hR.out, hn.out]; rfl) hb1

end Go.Proofs.Ytahkiabpjfcfdaa

namespace Go.Proofs.Ytahkiabpjfcfdaa
set_option maxRecDepth 100000
open Go.RowKit
set_option linter.unusedVariables false
set_option linter.unusedSimpArgs false
attribute [local irreducible] Int.lt Int.le
attribute [local go_sem ↓] load_key store_key alloc_key build0_key
attribute [local go_sem] rowOf_drew rowOf_alloc_old rowOf_alloc_new canPut_drew canPut_alloc_old canPut_alloc_new setCells_alloc_new

theorem keyC_bC (k : Key) : keyC k = bC k.val := by unfold keyC bC; rfl

theorem bytes_any (k : Key) (W : World) : Calls Try.prog 45 #[.agg (keyC k).toArray] W (Gives (.string (sB k.val)) W) := by
  go_enter Try.func45, Try.ntmps45
  go_wp2_with fail
  rw [keyC_bC, run_string_of _ _ _ k.val 38 32 k.2.symm (heap_alloc_new W _)]
  go_wp2
  go_ret
  exact gives rfl ((Below.refl _ _).alloc (Nat.le_refl _) _)

/-- '[]byte(s)'. -/
theorem conv_bytes (w : World) (l : List UInt8) (hl : l.length ≤ 1000000000) : ∃ g cap w', (convert 9 22 (.string (sB l))).run Try.prog w = .ok (.slice (some ⟨g, 0, none⟩) l.length cap) w' ∧ Below w.heap.size w w' ∧ w.heap.size ≤ g ∧ g < w'.heap.size ∧ rowOf w' g 0 l.length = some (bC l) ∧ l.length ≤ cap := by
  have h := run_bytes_of_string (P := Try.prog) w 9 22 5 (sB l) Try.underlying9 Try.underlying22 Try.underlying5
  rw [sB_size] at h
  have hge := grownCap_ge w l.length 0 5
  refine ⟨_, _, _, h, ((Below.refl _ _).drew).alloc (Nat.le_refl _) _, Nat.le_refl _, ?_, ?_, hge⟩
  · rw [World.size_alloc]; exact Nat.lt_succ_self _
  have hb : (w.drew.alloc (.cells (bytesRow (sB l) (grownCap w l.length 0 5)) 5 ((bytesRow (sB l) (grownCap w l.length 0 5)).size, (bytesRow (sB l) (grownCap w l.length 0 5)).size + 1))).heap[w.heap.size]? = some (.cells (bytesRow (sB l) (grownCap w l.length 0 5)) 5 ((bytesRow (sB l) (grownCap w l.length 0 5)).size, (bytesRow (sB l) (grownCap w l.length 0 5)).size + 1)) := heap_alloc_new w.drew _
  rw [rowOf_block hb 0 l.length (by simp [bytesRow, sB])]
  congr 1
  unfold bytesRow bC sB
  simp [Array.extract_append]
  rw [List.take_of_length_le (by simp)]
  rfl

/-- What holds in Key's last region. -/
structure KeyS (b : Nat) (w8 w : World) : Prop where
  since : SinceB b w8 w
  put : canPut w b 0 32 = true
  lt : b < w.heap.size
theorem KeyS.next {b : Nat} {w8 w w' : World} (h : KeyS b w8 w) (hb : Below w.heap.size w w') : KeyS b w8 w' := ⟨h.since.next hb, by rw [canPut_congr (hb.block _ h.lt)]; exact h.put, Nat.lt_of_lt_of_le h.lt hb.size⟩
theorem setCells_size (b : Nat) : ∀ (cs : List Value) (o : Nat) (w : World), (w.setCells b o cs).heap.size = w.heap.size
  | [], o, w => rfl
  | v :: cs, o, w => by
    show ((w.setCell ⟨b, o, none⟩ v).setCells b (o + 1) cs).heap.size = _
    rw [setCells_size b cs]
    simp [World.setCell]
theorem below_setCells {B b : Nat} (hB : B ≤ b) : ∀ (cs : List Value) (o : Nat) (W w : World), Below B W w → Below B W (w.setCells b o cs)
  | [], o, W, w, h => h
  | v :: cs, o, W, w, h => below_setCells hB cs (o + 1) W _ (Below.setCell h hB v)

/-- The key that bytes begin by. -/
def keyOf (s : List UInt8) (h : 32 ≤ s.length) : Key := ⟨s.take 32, by rw [List.length_take]; omega⟩
def keyV (s : List UInt8) : Key × List UInt8 × Int := if h : 32 ≤ s.length then (keyOf s h, s.drop 32, 0) else (zeroKey, [], 30)
def valK (r : Key × List UInt8 × Int) : Value := .tuple #[.agg (keyC r.1).toArray, .string (sB r.2.1), .int .i64 r.2.2]

theorem key_any (s : List UInt8) (W : World) (hs : s.length ≤ 1000000000) : Calls Try.prog 54 #[.string (sB s)] W (Gives (valK (keyV s)) W) := by
  have hsz := sB_size s
  go_enter Try.func54, Try.ntmps54
  by_cases h32 : (s.length : Int) < 32
  · have hV : keyV s = (zeroKey, [], 30) := by unfold keyV; rw [dif_neg (by omega)]
    rw [hV]
    clear hV
    go_wp2
    refine bodyPost_ret (v := valK (zeroKey, [], 30)) (res3 Try.results54 (res_key (b := W.heap.size) (o := 0) (by simp [go_sem]) (by simp [go_sem])) (v2 := .string (sB [])) (by simp [oneRes]; try rfl) (by simp [oneRes]; try rfl)) rfl ?_
    exact gives rfl ((Below.refl _ _).alloc (Nat.le_refl _) _)
  · have h32' : 32 ≤ s.length := by omega
    have hV : keyV s = (keyOf s h32', s.drop 32, 0) := by unfold keyV; rw [dif_pos h32']
    rw [hV]
    clear hV
    obtain ⟨k, hk⟩ : ∃ k, k = keyOf s h32' := ⟨_, rfl⟩
    rw [← hk]
    have hkv : k.val = s.take 32 := by rw [hk]; rfl
    replace hk := Box.mk hk
    obtain ⟨t32, ht⟩ : ∃ t, t = s.take 32 := ⟨_, rfl⟩
    obtain ⟨r, hr⟩ : ∃ r, r = s.drop 32 := ⟨_, rfl⟩
    have hl32 : t32.length = 32 := by rw [ht, List.length_take]; omega
    have hx : (sB s).extract 0 32 = sB t32 := by rw [sB_extract, ht, List.drop_zero]
    have hx2 : (sB s).extract 32 s.length = sB r := by rw [sB_extract, hr, List.take_length]
    rw [← hr]
    rw [← ht] at hkv
    replace hkv := Box.mk hkv
    clear ht hr
    have hb0 : Below W.heap.size W (W.alloc (.cells (keyC zeroKey).toArray 38)) := (Below.refl _ _).alloc (Nat.le_refl _) _
    have hp0 : canPut (W.alloc (.cells (keyC zeroKey).toArray 38)) W.heap.size 0 32 = true := by simp [go_sem]
    go_wp2_with fail
    obtain ⟨w8, hw8⟩ : ∃ w8, w8 = W.alloc (.cells (keyC zeroKey).toArray 38) := ⟨_, rfl⟩
    have hlt8 : W.heap.size < w8.heap.size := by rw [hw8]; simp
    rw [← hw8] at hb0 hp0 ⊢
    replace hw8 := Box.mk hw8
    have hall : ∀ w', KeyS W.heap.size w8 w' → W.heap.size < w'.heap.size := fun w' h => h.lt
    refine hreg_begin (S := KeyS W.heap.size w8) (by kernel_rfl) ⟨(SinceB.refl (by omega)).drew, by rw [canPut_drew]; exact hp0, hlt8⟩ (fun hHeld => ?_)
    simp only [List.length_cons, List.length_nil, Nat.zero_add, Nat.reduceAdd, Array.replicate]
    refine hreg_take (i := 0) rfl (by kernel_rfl) (by kernel_rfl) (by kernel_rfl) hreg_panic (by rfl) hHeld ?_
    apply Exists.intro
    refine ⟨fun w' hw' => ?_, ?_⟩
    · have hf := hall w' hw'
      go_simp
      try go_bits
      exact yieldsV_mk rfl
    simp only [Act.put, List.setIfInBounds_toArray, List.set_cons_zero, List.set_cons_succ]
    refine hreg_take (i := 1) rfl (by kernel_rfl) (by kernel_rfl) (by kernel_rfl) hreg_panic (by rfl) hHeld ?_
    apply Exists.intro
    refine ⟨fun w' hw' => ?_, ?_⟩
    · have hf := hall w' hw'
      go_simp
      try go_bits
      exact yieldsV_mk rfl
    simp only [Act.put, List.setIfInBounds_toArray, List.set_cons_zero, List.set_cons_succ]
    refine hreg_take (i := 5) rfl (by kernel_rfl) (by kernel_rfl) (by kernel_rfl) hreg_panic (by rfl) hHeld ?_
    apply Exists.intro
    refine ⟨fun w' hw' => ?_, ?_⟩
    · have hf := hall w' hw'
      go_simp
      try go_bits
      exact yieldsV_mk rfl
    simp only [Act.put, List.setIfInBounds_toArray, List.set_cons_zero, List.set_cons_succ]
    refine hreg_take (i := 6) rfl (by kernel_rfl) (by kernel_rfl) (by kernel_rfl) hreg_panic (by rfl) hHeld ?_
    apply Exists.intro
    refine ⟨fun w' hw' => ?_, ?_⟩
    · have hf := hall w' hw'
      go_simp
      try go_bits
      exact yieldsV_mk rfl
    simp only [Act.put, List.setIfInBounds_toArray, List.set_cons_zero, List.set_cons_succ]
    refine wpAnyH_ready (rs := [2]) (by kernel_rfl) (by simp) ?_
    refine hreg_event (o := _) rfl (by rfl) (fun K hK => ?_) ?_
    · go_simp
      first
        | (obtain ⟨g, cap, wc, hcv, hbc, hg0, hg1, hrc, hcc⟩ := conv_bytes _ t32 (by omega); rw [hcv]; rw [hl32] at hrc; rw [← hkv.out, ← keyC_bC] at hrc; go_simp)
        | (have hcp := hHeld.put; go_simp)
        | skip
      refine hK.out _ _ ?_ (fun hHeld' => ?_)
      · first
          | exact hHeld.next hbc
          | exact ⟨⟨below_setCells (Nat.le_refl _) _ _ _ _ hHeld.since.out, hHeld.since.le⟩, canPut_there.2 (World.there_setCells (canPut_there.1 hHeld.put) _ _ _), by rw [setCells_size]; exact hHeld.lt⟩
          | exact hHeld.next hb
          | exact hHeld
          | exact hHeld.alloc _
          | exact hHeld.setCell (by simp <;> omega) _
          | exact (hHeld.alloc _).alloc _
      replace hHeld := hHeld'
      clear hHeld' hK K
      simp only [Act.put, List.setIfInBounds_toArray, List.set_cons_zero, List.set_cons_succ]
      refine hreg_take (i := 3) rfl (by kernel_rfl) (by kernel_rfl) (by kernel_rfl) hreg_panic (by rfl) hHeld ?_
      apply Exists.intro
      refine ⟨fun w' hw' => ?_, ?_⟩
      · have hf := hall w' hw'
        go_simp
        try go_bits
        exact yieldsV_mk rfl
      simp only [Act.put, List.setIfInBounds_toArray, List.set_cons_zero, List.set_cons_succ]
      refine wpAnyH_ready (rs := [4]) (by kernel_rfl) (by simp) ?_
      refine hreg_event (o := _) rfl (by rfl) (fun K hK => ?_) ?_
      · go_simp
        first
          | (obtain ⟨g, cap, wc, hcv, hbc, hg0, hg1, hrc, hcc⟩ := conv_bytes _ t32 (by omega); rw [hcv]; rw [hl32] at hrc; rw [← hkv.out, ← keyC_bC] at hrc; go_simp)
          | (have hcp := hHeld.put; go_simp)
          | skip
        refine hK.out _ _ ?_ (fun hHeld' => ?_)
        · first
            | exact hHeld.next hbc
            | exact ⟨⟨below_setCells (Nat.le_refl _) _ _ _ _ hHeld.since.out, hHeld.since.le⟩, canPut_there.2 (World.there_setCells (canPut_there.1 hHeld.put) _ _ _), by rw [setCells_size]; exact hHeld.lt⟩
            | exact hHeld.next hb
            | exact hHeld
            | exact hHeld.alloc _
            | exact hHeld.setCell (by simp <;> omega) _
            | exact (hHeld.alloc _).alloc _
        replace hHeld := hHeld'
        clear hHeld' hK K
        simp only [Act.put, List.setIfInBounds_toArray, List.set_cons_zero, List.set_cons_succ]
        refine wpAnyH_ready (rs := [7]) (by kernel_rfl) (by simp) ?_
        refine hreg_event (o := _) rfl (by rfl) (fun K hK => ?_) ?_
        · go_simp
          first
            | (obtain ⟨g, cap, wc, hcv, hbc, hg0, hg1, hrc, hcc⟩ := conv_bytes _ t32 (by omega); rw [hcv]; rw [hl32] at hrc; rw [← hkv.out, ← keyC_bC] at hrc; go_simp)
            | (have hcp := hHeld.put; go_simp)
            | skip
          refine hK.out _ _ ?_ (fun hHeld' => ?_)
          · first
              | exact hHeld.next hbc
              | exact ⟨⟨below_setCells (Nat.le_refl _) _ _ _ _ hHeld.since.out, hHeld.since.le⟩, canPut_there.2 (World.there_setCells (canPut_there.1 hHeld.put) _ _ _), by rw [setCells_size]; exact hHeld.lt⟩
              | exact hHeld.next hb
              | exact hHeld
              | exact hHeld.alloc _
              | exact hHeld.setCell (by simp <;> omega) _
              | exact (hHeld.alloc _).alloc _
          replace hHeld := hHeld'
          clear hHeld' hK K
          simp only [Act.put, List.setIfInBounds_toArray, List.set_cons_zero, List.set_cons_succ]
          refine hreg_take (i := 8) rfl (by kernel_rfl) (by kernel_rfl) (by kernel_rfl) hreg_panic (by rfl) hHeld ?_
          apply Exists.intro
          refine ⟨fun w' hw' => ?_, ?_⟩
          · have hf := hall w' hw'
            go_simp
            try go_bits
            exact yieldsV_mk rfl
          simp only [Act.put, List.setIfInBounds_toArray, List.set_cons_zero, List.set_cons_succ]
          refine hreg_take (i := 9) rfl (by kernel_rfl) (by kernel_rfl) (by kernel_rfl) hreg_panic (by rfl) hHeld ?_
          apply Exists.intro
          refine ⟨fun w' hw' => ?_, ?_⟩
          · have hf := hall w' hw'
            go_simp
            try go_bits
            exact yieldsV_mk rfl
          simp only [Act.put, List.setIfInBounds_toArray, List.set_cons_zero, List.set_cons_succ]
          refine wpAnyH_done (by kernel_rfl) ?_ _
          refine NoPanic.normal ?_
          have hrow := rowOf_of_rangeAt (World.rangeAt_setCells_same wc W.heap.size 0 (keyC k) (by rw [keyC_length]; exact canPut_there.1 hcp)) (keyC_length k)
          obtain ⟨wf, hwf⟩ : ∃ wf, wf = wc.setCells W.heap.size 0 (keyC k) := ⟨_, rfl⟩
          rw [← hwf] at hrow hHeld ⊢
          replace hwf := Box.mk hwf
          go_wp2
          refine bodyPost_ret (v := valK (k, r, 0)) (res3 Try.results54 (res_key (b := W.heap.size) (o := 0) (by simp [go_sem]) hrow) (v2 := .string (sB r)) (by simp [oneRes]; try rfl) (by simp [oneRes]; try rfl)) rfl ?_
          exact gives rfl (hb0.trans hHeld.since.out)
        exact AllReadyH.nil
      exact AllReadyH.nil
    exact AllReadyH.nil

end Go.Proofs.Ytahkiabpjfcfdaa

namespace Go.Proofs.Ytahkiabpjfcfdaa
open Go.RowKit Go.Shelf
set_option linter.unusedVariables false
set_option maxRecDepth 100000

theorem lays166 : Go.Proofs.Lays.n166 Try.prog Try.lays105_ren := { Try.lays105 with }
theorem lays169 : Go.Proofs.Lays.n169 Try.prog Try.lays105_ren := { Try.lays105 with }
theorem extra105 : Builder.Extra Try.prog Try.lays105_ren := Try.Builder_Extra_105

/-- A builder at block b that holds these bytes. -/
def Bld (w : World) (b : Nat) (bs : List UInt8) : Prop := Lib.IsBuilderF 107 5 b b (Lib.byteCells bs) w
/-- Below b, and in blocks that are neither b nor rows of bytes, nothing has turned. -/
structure Kp (b : Nat) (w w' : World) : Prop where
  below : Below b w w'
  oth : Lib.OthersKept 5 (some b) w w'

theorem Kp.refl (b : Nat) (w : World) : Kp b w w := ⟨Below.refl _ _, Lib.OthersKept.refl _ _ _⟩
theorem Kp.trans {b : Nat} {w1 w2 w3 : World} (h : Kp b w1 w2) (h' : Kp b w2 w3) : Kp b w1 w3 := ⟨h.below.trans h'.below, h.oth.trans h'.oth⟩
theorem Kp.size {b : Nat} {w w' : World} (h : Kp b w w') : w.heap.size ≤ w'.heap.size := h.below.size
theorem Kp.of {b : Nat} {w w' : World} (h : Below w.heap.size w w') (hb : b ≤ w.heap.size) : Kp b w w' :=
  ⟨h.mono hb, fun k o hk _ _ => by rw [h.block k (Array.getElem?_eq_some_iff.1 hk).1]; exact hk⟩
theorem Kp.alloc {b : Nat} {w w' : World} (h : Kp b w w') (hb : b ≤ w'.heap.size) (ob : Obj) : Kp b w (w'.alloc ob) := h.trans (Kp.of ((Below.refl _ _).alloc (Nat.le_refl _) ob) hb)
theorem Kp.next {b : Nat} {w w' w'' : World} (h : Kp b w w') (hb : b ≤ w'.heap.size) (hn : Below w'.heap.size w' w'') : Kp b w w'' := h.trans (Kp.of hn hb)
/-- A variable of another kind is kept. -/
theorem Kp.heap {b k : Nat} {w w' : World} {c : Array Value} {t : TypeId} {fz : Nat × Nat} (h : Kp b w w') (hk : w.heap[k]? = some (.cells c t fz)) (hb : k ≠ b) (ht : t ≠ 5) : w'.heap[k]? = some (.cells c t fz) :=
  h.oth k _ hk (by simpa using hb) fun c' fz' e => by injection e with e1 e2 e3; exact ht e2

theorem Bld.lt {w : World} {b : Nat} {bs : List UInt8} (h : Bld w b bs) : b < w.heap.size := by
  rcases h with ⟨_, v, hb, _⟩ | ⟨_, v, hb, _⟩ <;> exact (Array.getElem?_eq_some_iff.1 hb).1
theorem Bld.below {w w' : World} {b : Nat} {bs : List UInt8} (h : Bld w b bs) (hb : Below w.heap.size w w') : Bld w' b bs := by
  have key : ∀ p, Lib.BuilderAtF 107 5 b b p (Lib.byteCells bs) w → Lib.BuilderAtF 107 5 b b p (Lib.byteCells bs) w' := by
    rintro p ⟨h0, v, h1, ⟨h2, h3⟩, h4⟩
    refine ⟨h0, v, by rw [hb.block _ (Array.getElem?_eq_some_iff.1 h1).1]; exact h1, ⟨h2, ?_⟩, h4⟩
    rcases h3 with h3 | ⟨g, cap, cur, fz, hv, hg, hh, r⟩
    · exact .inl h3
    · exact .inr ⟨g, cap, cur, fz, hv, hg, by rw [hb.block _ (Array.getElem?_eq_some_iff.1 hh).1]; exact hh, r⟩
  exact h.elim (fun x => .inl (key _ x)) (fun x => .inr (key _ x))
theorem Bld.alloc {w : World} {b : Nat} {bs : List UInt8} (h : Bld w b bs) (ob : Obj) : Bld (w.alloc ob) b bs := h.below ((Below.refl _ _).alloc (Nat.le_refl _) ob)
/-- A new builder. -/
theorem Bld.new (w : World) (b : Nat) (hb : b = w.heap.size) : Bld (w.alloc (.cells #[.pointer none, .slice none 0 0] 107)) b [] := by
  subst hb
  refine .inl ⟨Nat.le_refl _, .slice none 0 0, heap_alloc_new w _, ⟨rfl, .inl ⟨rfl, rfl⟩⟩, ?_⟩
  simp [Value.ownBlock]

theorem ws_any {b : Nat} {bs : List UInt8} (l : List UInt8) {w : World} (h : Bld w b bs) (hlen : bs.length + l.length ≤ 1000000000) :
    Calls Try.prog 83 #[.pointer (some ⟨b, 0, none⟩), .string (sB l)] w fun e w' => e = .returned (.tuple #[.int .i64 l.length, .nilIface]) ∧ Bld w' b (bs ++ l) ∧ Kp b w w' := by
  refine (Any.Builder_WriteString_k lays166 extra105 b b (Lib.byteCells bs) (sB l) w h (by rw [Lib.byteCells_length, sB_size]; omega) (Nat.le_of_lt h.lt)).mono ?_
  rintro e w' ⟨rfl, h1, h2, h3⟩
  refine ⟨by rw [sB_size], .inr ?_, h2, h3⟩
  have e : Lib.strCells (sB l) = Lib.byteCells l := rfl
  rw [Lib.byteCells_append, ← e]
  exact h1
theorem str_any {b : Nat} {bs : List UInt8} {w : World} (h : Bld w b bs) :
    Calls Try.prog 90 #[.pointer (some ⟨b, 0, none⟩)] w fun e w' => e = .returned (.string (sB bs)) ∧ Bld w' b bs ∧ Kp b w w' := by
  refine (Any.Builder_String_any_k lays169 extra105 b b bs w h (Nat.le_of_lt h.lt)).mono ?_
  rintro e w' ⟨rfl, h1, h2, h3⟩
  exact ⟨rfl, h1, h2, h3⟩

end Go.Proofs.Ytahkiabpjfcfdaa

namespace Go.Proofs.Ytahkiabpjfcfdaa
set_option maxRecDepth 100000
open Go.RowKit

structure PointV where
  tx : Key
  idx : Int
structure OutV where
  value : Int
  lock : Key
/-- A slice's three numbers. -/
structure Sl where
  a : Option Addr
  len : Nat
  cap : Nat
structure TxV where
  exp : Int
  ins : Sl
  outs : Sl
  anchor : Key
  nulls : Sl
  notes : Sl
  bal : Int

@[irreducible] def pointC (p : PointV) : List Value := keyC p.tx ++ [.int .u32 p.idx]
@[irreducible] def outC (o : OutV) : List Value := .int .i64 o.value :: keyC o.lock
@[irreducible] def txC (t : TxV) : List Value := .int .u32 t.exp :: .slice t.ins.a t.ins.len t.ins.cap :: .slice t.outs.a t.outs.len t.outs.cap :: (keyC t.anchor ++ [.slice t.nulls.a t.nulls.len t.nulls.cap, .slice t.notes.a t.notes.len t.notes.cap, .int .i64 t.bal])
def Sl.nil : Sl := ⟨none, 0, 0⟩
def zeroPoint : PointV := ⟨zeroKey, 0⟩
def zeroOut : OutV := ⟨0, zeroKey⟩
def zeroTx : TxV := ⟨0, .nil, .nil, zeroKey, .nil, .nil, 0⟩

@[go_sem] theorem pointC_length (p : PointV) : (pointC p).length = 33 := by unfold pointC; simp [keyC_length]
@[go_sem] theorem outC_length (p : OutV) : (outC p).length = 33 := by unfold outC; simp [keyC_length]
@[go_sem] theorem txC_length (t : TxV) : (txC t).length = 38 := by unfold txC; simp [keyC_length]
theorem isRow_append {n : Nat} {l r : List Value} (h : isRow n l = true) (hr : r.all (·.oneCell') = true) : isRow (n + r.length) (l ++ r) = true := by
  simp only [isRow, Bool.and_eq_true, decide_eq_true_eq, List.length_append, List.all_append] at h ⊢
  exact ⟨by omega, h.2, hr⟩
theorem isRow_before {n : Nat} {l r : List Value} (h : isRow n r = true) (hr : l.all (·.oneCell') = true) : isRow (l.length + n) (l ++ r) = true := by
  simp only [isRow, Bool.and_eq_true, decide_eq_true_eq, List.length_append, List.all_append] at h ⊢
  exact ⟨by omega, hr, h.2⟩
@[go_sem] theorem pointC_row (p : PointV) : isRow 33 (pointC p) = true := by unfold pointC; exact isRow_append (keyC_row _) rfl
@[go_sem] theorem outC_row (p : OutV) : isRow 33 (outC p) = true := by unfold outC; exact isRow_before (l := [_]) (keyC_row _) rfl
@[go_sem] theorem txC_row (t : TxV) : isRow 38 (txC t) = true := by unfold txC; exact isRow_before (l := [_, _, _]) (isRow_append (keyC_row _) (r := [_, _, _]) rfl) rfl

theorem at_mid (l r : List Value) (j : Nat) (h : l.length = 32) : (l ++ r)[32 + j]? = r[j]? := by
  rw [List.getElem?_append_right (by omega), h, Nat.add_sub_cancel_left]
@[go_sem] theorem txC_0 (t : TxV) : (txC t)[0]? = some (.int .u32 t.exp) := by unfold txC; rfl
@[go_sem] theorem txC_1 (t : TxV) : (txC t)[1]? = some (.slice t.ins.a t.ins.len t.ins.cap) := by unfold txC; rfl
@[go_sem] theorem txC_2 (t : TxV) : (txC t)[2]? = some (.slice t.outs.a t.outs.len t.outs.cap) := by unfold txC; rfl
@[go_sem] theorem txC_35 (t : TxV) : (txC t)[35]? = some (.slice t.nulls.a t.nulls.len t.nulls.cap) := by unfold txC; exact at_mid _ _ 0 (keyC_length _)
@[go_sem] theorem txC_36 (t : TxV) : (txC t)[36]? = some (.slice t.notes.a t.notes.len t.notes.cap) := by unfold txC; exact at_mid _ _ 1 (keyC_length _)
@[go_sem] theorem txC_37 (t : TxV) : (txC t)[37]? = some (.int .i64 t.bal) := by unfold txC; exact at_mid _ _ 2 (keyC_length _)
theorem txC_g0 (t : TxV) (h : 0 < (txC t).length) : (txC t)[0] = .int .u32 t.exp := Option.some.inj ((List.getElem?_eq_getElem h).symm.trans (txC_0 t))
theorem txC_g1 (t : TxV) (h : 1 < (txC t).length) : (txC t)[1] = .slice t.ins.a t.ins.len t.ins.cap := Option.some.inj ((List.getElem?_eq_getElem h).symm.trans (txC_1 t))
theorem txC_g2 (t : TxV) (h : 2 < (txC t).length) : (txC t)[2] = .slice t.outs.a t.outs.len t.outs.cap := Option.some.inj ((List.getElem?_eq_getElem h).symm.trans (txC_2 t))
theorem txC_g35 (t : TxV) (h : 35 < (txC t).length) : (txC t)[35] = .slice t.nulls.a t.nulls.len t.nulls.cap := Option.some.inj ((List.getElem?_eq_getElem h).symm.trans (txC_35 t))
theorem txC_g36 (t : TxV) (h : 36 < (txC t).length) : (txC t)[36] = .slice t.notes.a t.notes.len t.notes.cap := Option.some.inj ((List.getElem?_eq_getElem h).symm.trans (txC_36 t))
theorem txC_g37 (t : TxV) (h : 37 < (txC t).length) : (txC t)[37] = .int .i64 t.bal := Option.some.inj ((List.getElem?_eq_getElem h).symm.trans (txC_37 t))
attribute [go_sem] txC_g0 txC_g1 txC_g2 txC_g35 txC_g36 txC_g37
@[go_sem] theorem txC_set1 (t : TxV) (a : Option Addr) (l c : Nat) : (txC t).set 1 (.slice a l c) = txC { t with ins := ⟨a, l, c⟩ } := by unfold txC; rfl
@[go_sem] theorem txC_set2 (t : TxV) (a : Option Addr) (l c : Nat) : (txC t).set 2 (.slice a l c) = txC { t with outs := ⟨a, l, c⟩ } := by unfold txC; rfl
theorem set_mid (l r : List Value) (j : Nat) (v : Value) (h : l.length = 32) : (l ++ r).set (32 + j) v = l ++ r.set j v := by
  rw [List.set_append, if_neg (by omega), h, Nat.add_sub_cancel_left]
theorem txC_set35 (t : TxV) (a : Option Addr) (l c : Nat) : (txC t).set 35 (.slice a l c) = txC { t with nulls := ⟨a, l, c⟩ } := by
  unfold txC; exact congrArg (fun l => _ :: _ :: _ :: l) (set_mid _ _ 0 _ (keyC_length _))
theorem txC_set36 (t : TxV) (a : Option Addr) (l c : Nat) : (txC t).set 36 (.slice a l c) = txC { t with notes := ⟨a, l, c⟩ } := by
  unfold txC; exact congrArg (fun l => _ :: _ :: _ :: l) (set_mid _ _ 1 _ (keyC_length _))
attribute [go_sem] txC_set35 txC_set36

theorem load_point (ρ : Operand → Value) (dst : Option Tmp) (x : Operand) (t : TypeId) (pos : String) (after : Array Edge) (guard : Option (Nat × Bool)) (w : World) :
    (execOp ρ ⟨dst, .load 59 x, t, pos, after, guard⟩).run Try.prog w = loadTo Try.prog 59 33 w (ρ x) :=
  exec_load Try.underlying59 rfl (by kernel_rfl) ρ dst x t pos after guard w
theorem store_point (ρ : Operand → Value) (dst : Option Tmp) (a x : Operand) (t : TypeId) (pos : String) (after : Array Edge) (guard : Option (Nat × Bool)) (w : World) :
    (execOp ρ ⟨dst, .store 59 a x, t, pos, after, guard⟩).run Try.prog w = storeTo Try.prog 59 33 w (ρ a) (ρ x) :=
  exec_store (by kernel_rfl) ρ dst a x t pos after guard w
theorem alloc_point (ρ : Operand → Value) (dst : Option Tmp) (t : TypeId) (pos : String) (after : Array Edge) (guard : Option (Nat × Bool)) (w : World) :
    (execOp ρ ⟨dst, .alloc 59, t, pos, after, guard⟩).run Try.prog w = .ok (.value (.pointer (some ⟨w.heap.size, 0, none⟩))) (w.alloc (.cells (pointC zeroPoint).toArray 59)) :=
  exec_alloc (by kernel_rfl) ρ dst t pos after guard w
theorem build0_point (ρ : Operand → Value) (dst : Option Tmp) (t : TypeId) (pos : String) (after : Array Edge) (guard : Option (Nat × Bool)) (w : World) :
    (execOp ρ ⟨dst, .build 59 #[], t, pos, after, guard⟩).run Try.prog w = .ok (.value (.agg (pointC zeroPoint).toArray)) w :=
  exec_build0 (fun w => by kernel_rfl) ρ dst t pos after guard w
theorem info_point : ∃ i, Try.prog.info? 59 = some i ∧ i.size = 33 ∧ i.zero = some (.agg (pointC zeroPoint).toArray) := by
  have h : (Try.prog.info? 59).map (fun i => (i.size, i.zero)) = some (33, some (.agg (pointC zeroPoint).toArray)) := by kernel_rfl
  obtain ⟨i, hi, h'⟩ := Option.map_eq_some_iff.1 h
  exact ⟨i, hi, congrArg Prod.fst h', congrArg Prod.snd h'⟩
theorem one_point (ρ : Operand → Value) (dst : Option Tmp) (x : Operand) (t : TypeId) (pos : String) (after : Array Edge) (guard : Option (Nat × Bool)) (w : World) :
    (execOp ρ ⟨dst, .buildSlice 35 1 #[(0, x)], t, pos, after, guard⟩).run Try.prog w = oneTo Try.prog 35 59 33 w (ρ x) := by
  obtain ⟨i, hi, hs, hz⟩ := info_point
  exact exec_one Try.underlying35 hi hs (by omega) (by omega) hz (by simp [go_sem]) ρ dst x t pos after guard w
theorem load_out (ρ : Operand → Value) (dst : Option Tmp) (x : Operand) (t : TypeId) (pos : String) (after : Array Edge) (guard : Option (Nat × Bool)) (w : World) :
    (execOp ρ ⟨dst, .load 101 x, t, pos, after, guard⟩).run Try.prog w = loadTo Try.prog 101 33 w (ρ x) :=
  exec_load Try.underlying101 rfl (by kernel_rfl) ρ dst x t pos after guard w
theorem store_out (ρ : Operand → Value) (dst : Option Tmp) (a x : Operand) (t : TypeId) (pos : String) (after : Array Edge) (guard : Option (Nat × Bool)) (w : World) :
    (execOp ρ ⟨dst, .store 101 a x, t, pos, after, guard⟩).run Try.prog w = storeTo Try.prog 101 33 w (ρ a) (ρ x) :=
  exec_store (by kernel_rfl) ρ dst a x t pos after guard w
theorem alloc_out (ρ : Operand → Value) (dst : Option Tmp) (t : TypeId) (pos : String) (after : Array Edge) (guard : Option (Nat × Bool)) (w : World) :
    (execOp ρ ⟨dst, .alloc 101, t, pos, after, guard⟩).run Try.prog w = .ok (.value (.pointer (some ⟨w.heap.size, 0, none⟩))) (w.alloc (.cells (outC zeroOut).toArray 101)) :=
  exec_alloc (by kernel_rfl) ρ dst t pos after guard w
theorem build0_out (ρ : Operand → Value) (dst : Option Tmp) (t : TypeId) (pos : String) (after : Array Edge) (guard : Option (Nat × Bool)) (w : World) :
    (execOp ρ ⟨dst, .build 101 #[], t, pos, after, guard⟩).run Try.prog w = .ok (.value (.agg (outC zeroOut).toArray)) w :=
  exec_build0 (fun w => by kernel_rfl) ρ dst t pos after guard w
theorem info_out : ∃ i, Try.prog.info? 101 = some i ∧ i.size = 33 ∧ i.zero = some (.agg (outC zeroOut).toArray) := by
  have h : (Try.prog.info? 101).map (fun i => (i.size, i.zero)) = some (33, some (.agg (outC zeroOut).toArray)) := by kernel_rfl
  obtain ⟨i, hi, h'⟩ := Option.map_eq_some_iff.1 h
  exact ⟨i, hi, congrArg Prod.fst h', congrArg Prod.snd h'⟩
theorem one_out (ρ : Operand → Value) (dst : Option Tmp) (x : Operand) (t : TypeId) (pos : String) (after : Array Edge) (guard : Option (Nat × Bool)) (w : World) :
    (execOp ρ ⟨dst, .buildSlice 36 1 #[(0, x)], t, pos, after, guard⟩).run Try.prog w = oneTo Try.prog 36 101 33 w (ρ x) := by
  obtain ⟨i, hi, hs, hz⟩ := info_out
  exact exec_one Try.underlying36 hi hs (by omega) (by omega) hz (by simp [go_sem]) ρ dst x t pos after guard w
theorem load_tx (ρ : Operand → Value) (dst : Option Tmp) (x : Operand) (t : TypeId) (pos : String) (after : Array Edge) (guard : Option (Nat × Bool)) (w : World) :
    (execOp ρ ⟨dst, .load 41 x, t, pos, after, guard⟩).run Try.prog w = loadTo Try.prog 41 38 w (ρ x) :=
  exec_load Try.underlying41 rfl (by kernel_rfl) ρ dst x t pos after guard w
theorem store_tx (ρ : Operand → Value) (dst : Option Tmp) (a x : Operand) (t : TypeId) (pos : String) (after : Array Edge) (guard : Option (Nat × Bool)) (w : World) :
    (execOp ρ ⟨dst, .store 41 a x, t, pos, after, guard⟩).run Try.prog w = storeTo Try.prog 41 38 w (ρ a) (ρ x) :=
  exec_store (by kernel_rfl) ρ dst a x t pos after guard w
theorem alloc_tx (ρ : Operand → Value) (dst : Option Tmp) (t : TypeId) (pos : String) (after : Array Edge) (guard : Option (Nat × Bool)) (w : World) :
    (execOp ρ ⟨dst, .alloc 41, t, pos, after, guard⟩).run Try.prog w = .ok (.value (.pointer (some ⟨w.heap.size, 0, none⟩))) (w.alloc (.cells (txC zeroTx).toArray 41)) :=
  exec_alloc (by kernel_rfl) ρ dst t pos after guard w
theorem build0_tx (ρ : Operand → Value) (dst : Option Tmp) (t : TypeId) (pos : String) (after : Array Edge) (guard : Option (Nat × Bool)) (w : World) :
    (execOp ρ ⟨dst, .build 41 #[], t, pos, after, guard⟩).run Try.prog w = .ok (.value (.agg (txC zeroTx).toArray)) w :=
  exec_build0 (fun w => by kernel_rfl) ρ dst t pos after guard w
theorem info_tx : ∃ i, Try.prog.info? 41 = some i ∧ i.size = 38 ∧ i.zero = some (.agg (txC zeroTx).toArray) := by
  have h : (Try.prog.info? 41).map (fun i => (i.size, i.zero)) = some (38, some (.agg (txC zeroTx).toArray)) := by kernel_rfl
  obtain ⟨i, hi, h'⟩ := Option.map_eq_some_iff.1 h
  exact ⟨i, hi, congrArg Prod.fst h', congrArg Prod.snd h'⟩
theorem one_tx (ρ : Operand → Value) (dst : Option Tmp) (x : Operand) (t : TypeId) (pos : String) (after : Array Edge) (guard : Option (Nat × Bool)) (w : World) :
    (execOp ρ ⟨dst, .buildSlice 48 1 #[(0, x)], t, pos, after, guard⟩).run Try.prog w = oneTo Try.prog 48 41 38 w (ρ x) := by
  obtain ⟨i, hi, hs, hz⟩ := info_tx
  exact exec_one Try.underlying48 hi hs (by omega) (by omega) hz (by simp [go_sem]) ρ dst x t pos after guard w

end Go.Proofs.Ytahkiabpjfcfdaa

namespace Go.Proofs.Ytahkiabpjfcfdaa
open Go.RowKit
set_option linter.unusedVariables false
set_option linter.unusedSimpArgs false
set_option maxRecDepth 100000
attribute [local irreducible] Int.lt Int.le
attribute [local go_sem ↓] load_key store_key alloc_key build0_key eq_key load_point store_point alloc_point load_out store_out alloc_out load_tx store_tx alloc_tx
attribute [local go_sem] rowOf_drew rowOf_alloc_old rowOf_alloc_new canPut_drew canPut_alloc_old canPut_alloc_new setCells_alloc_new

/-- A number as sixty-four bits. -/
def u64N (v : Int) : Nat := (v % 18446744073709551616).toNat
theorem u64N_lt (v : Int) : u64N v < 18446744073709551616 := by unfold u64N; omega
theorem u64N_wrap (v : Int) : IntKind.u64.wrap v = (u64N v : Int) := by rw [IntKind.wrap_u64]; unfold u64N; omega
theorem u64N_nat (n : Nat) (h : n < 18446744073709551616) : u64N (n : Int) = n := by unfold u64N; omega
def ptB (p : PointV) : List UInt8 := p.tx.val ++ le 4 p.idx.toNat
def outB (o : OutV) : List UInt8 := le 8 (u64N o.value) ++ o.lock.val
theorem ptB_length (p : PointV) : (ptB p).length = 36 := by unfold ptB; rw [List.length_append, le_length, p.tx.property]
theorem outB_length (p : OutV) : (outB p).length = 40 := by unfold outB; rw [List.length_append, le_length, p.lock.property]
theorem pt_row {w : World} {b o : Nat} {p : PointV} (h : rowOf w b o 33 = some (pointC p)) : rowOf w b o 32 = some (keyC p.tx) ∧ w.cell? ⟨b, o + 32, none⟩ = some (.int .u32 p.idx) := by
  constructor
  · have := rowOf_sub h 0 32 (by omega)
    rw [Nat.add_zero, List.drop_zero] at this
    rw [this]
    unfold pointC
    rw [List.take_append_of_le_length (by rw [keyC_length]; exact Nat.le_refl _), List.take_of_length_le (by rw [keyC_length]; exact Nat.le_refl _)]
  · exact (rowOf_some.1 h).2 32 (.int .u32 p.idx) (by unfold pointC; rw [List.getElem?_append_right (by rw [keyC_length]; exact Nat.le_refl _), keyC_length]; rfl)
theorem out_row {w : World} {b o : Nat} {p : OutV} (h : rowOf w b o 33 = some (outC p)) : rowOf w b (o + 1) 32 = some (keyC p.lock) ∧ w.cell? ⟨b, o, none⟩ = some (.int .i64 p.value) := by
  constructor
  · have := rowOf_sub h 1 32 (by omega)
    rw [this]
    unfold outC
    rw [List.drop_succ_cons, List.drop_zero, List.take_of_length_le (by rw [keyC_length]; exact Nat.le_refl _)]
  · have := (rowOf_some.1 h).2 0 (.int .i64 p.value) (by unfold outC; rfl)
    rwa [Nat.add_zero] at this

/-- The variable that holds the writer of keys. -/
def KB (b kb : Nat) (w : World) : Prop := w.heap[kb]? = some (.cells #[.func (.func 82) #[] #[.pointer (some ⟨b, 0, none⟩)]] 112 (0, 0)) ∧ kb ≠ b
theorem KB.keep {b kb : Nat} {w w' : World} (h : KB b kb w) (hk : Kp b w w') : KB b kb w' := ⟨hk.heap h.1 h.2 (by decide), h.2⟩
theorem KB.cell {b kb : Nat} {w : World} (h : KB b kb w) : w.cell? ⟨kb, 0, none⟩ = some (.func (.func 82) #[] #[.pointer (some ⟨b, 0, none⟩)]) ∧ kb < w.heap.size :=
  ⟨by rw [cell_of_row w kb 0 _ _ _ h.1]; rfl, (Array.getElem?_eq_some_iff.1 h.1).1⟩
/-- Written. -/
def Wrote (b : Nat) (bs : List UInt8) (w : World) (e : Ending) (w' : World) : Prop := e = .returned (.tuple #[]) ∧ Bld w' b bs ∧ Kp b w w'

set_option maxHeartbeats 1000000 in
theorem enc1_any {b : Nat} {bs : List UInt8} (k : Key) {w : World} (h : Bld w b bs) (hlen : bs.length ≤ 100000) :
    Calls Try.prog 82 #[.agg (keyC k).toArray, .pointer (some ⟨b, 0, none⟩)] w (Wrote b (bs ++ k.val) w) := by
  have hk1 : Kp b w (w.alloc (.cells (keyC k).toArray 38)) := (Kp.refl b w).alloc (Nat.le_of_lt h.lt) _
  have hr1 : rowOf (w.alloc (.cells (keyC k).toArray 38)) w.heap.size 0 32 = some (keyC k) := rowOf_alloc_new _ _ _ _ _ _ rfl (keyC_length k)
  have h1 := h.alloc (.cells (keyC k).toArray 38)
  have hlt := h.lt
  replace h := Box.mk h
  go_enter Try.func82, Try.ntmps82
  go_wp2_with fail
  generalize w.alloc (.cells (keyC k).toArray 38) = w1 at *
  refine (bytes_any k w1).mono ?_
  rintro e w2 ⟨rfl, hb2⟩
  have h2 := h1.below hb2
  have hk2 := hk1.next (Nat.le_of_lt h1.lt) hb2
  replace h1 := Box.mk h1
  go_wp2_with fail
  refine (ws_any k.val h2 (by rw [k.property]; omega)).mono ?_
  rintro e w3 ⟨rfl, h3, hk3⟩
  replace h3 := Box.mk h3
  replace h2 := Box.mk h2
  go_wp2
  go_end0
  exact ⟨rfl, h3.out, hk2.trans hk3⟩

set_option maxHeartbeats 1000000 in
theorem enc2_any {b kb : Nat} {bs : List UInt8} (p : PointV) {w : World} (h : Bld w b bs) (hK : KB b kb w) (hp : 0 ≤ p.idx ∧ p.idx ≤ 4294967295) (hlen : bs.length ≤ 90000) :
    Calls Try.prog 85 #[.agg (pointC p).toArray, .pointer (some ⟨kb, 0, none⟩), .pointer (some ⟨b, 0, none⟩)] w (Wrote b (bs ++ ptB p) w) := by
  have hk1 : Kp b w (w.alloc (.cells (pointC p).toArray 59)) := (Kp.refl b w).alloc (Nat.le_of_lt h.lt) _
  have hH1 : (w.alloc (.cells (pointC p).toArray 59)).heap[w.heap.size]? = some (.cells (pointC p).toArray 59 (0, 0)) := heap_alloc_new w _
  have hr1 : ∀ w', w'.heap[w.heap.size]? = some (.cells (pointC p).toArray 59 (0, 0)) → rowOf w' w.heap.size 0 33 = some (pointC p) := fun w' hw => by
    have := rowOf_block hw 0 33 (by simp [pointC_length])
    rw [this]; congr 1; simp; exact List.take_of_length_le (by rw [pointC_length]; exact Nat.le_refl _)
  have h1 := h.alloc (.cells (pointC p).toArray 59)
  have hlt := h.lt
  have hs1 : (w.alloc (.cells (pointC p).toArray 59)).heap.size = w.heap.size + 1 := by simp
  have hK1 := hK.keep hk1
  obtain ⟨i, hi⟩ : ∃ i : Nat, p.idx = i := ⟨p.idx.toNat, by omega⟩
  have hi2 : i < 18446744073709551616 := by omega
  have hB : bs ++ ptB p = (bs ++ p.tx.val) ++ le 4 i := by unfold ptB; rw [hi, Int.toNat_natCast, List.append_assoc]
  replace hB := Box.mk hB
  replace h := Box.mk h
  replace hK := Box.mk hK
  obtain ⟨c1, c2⟩ := pt_row (hr1 _ hH1)
  obtain ⟨d1, d2⟩ := hK1.cell
  rw [Nat.zero_add, hi] at c2
  go_enter Try.func85, Try.ntmps85
  go_wp2_with fail
  generalize w.alloc (.cells (pointC p).toArray 59) = w1 at *
  refine (enc1_any p.tx h1 (by omega)).mono ?_
  rintro e w2 ⟨rfl, h2, hk2⟩
  have hH2 := hk2.heap hH1 (by omega) (by decide)
  have hs2 := hk2.size
  obtain ⟨c3, c4⟩ := pt_row (hr1 _ hH2)
  rw [Nat.zero_add, hi] at c4
  replace hr1 := Box.mk hr1
  replace h1 := Box.mk h1
  replace hK1 := Box.mk hK1
  clear c1 c2 c3 d1
  have hw : w.heap.size < w2.heap.size := by omega
  go_wp2_with fail
  refine (put_any i 4 w2 hi2).mono ?_
  rintro e w3 ⟨rfl, hb3⟩
  rw [show putL i 4 = le 4 i from putL_nat i 4 (by omega) (by omega)]
  have h3 := h2.below hb3
  have hk3 := (hk1.trans hk2).next (Nat.le_of_lt h2.lt) hb3
  replace h2 := Box.mk h2
  go_wp2_with fail
  refine (ws_any (le 4 i) h3 (by rw [le_length, List.length_append, p.tx.property]; omega)).mono ?_
  rintro e w4 ⟨rfl, h4, hk4⟩
  rw [← hB.out] at h4
  replace h3 := Box.mk h3
  replace h4 := Box.mk h4
  go_wp2
  go_end0
  exact ⟨rfl, h4.out, hk3.trans hk4⟩

set_option maxHeartbeats 1000000 in
theorem enc3_any {b kb : Nat} {bs : List UInt8} (p : OutV) {w : World} (h : Bld w b bs) (hK : KB b kb w) (hlen : bs.length ≤ 90000) :
    Calls Try.prog 87 #[.agg (outC p).toArray, .pointer (some ⟨b, 0, none⟩), .pointer (some ⟨kb, 0, none⟩)] w (Wrote b (bs ++ outB p) w) := by
  have hk1 : Kp b w (w.alloc (.cells (outC p).toArray 101)) := (Kp.refl b w).alloc (Nat.le_of_lt h.lt) _
  have hH1 : (w.alloc (.cells (outC p).toArray 101)).heap[w.heap.size]? = some (.cells (outC p).toArray 101 (0, 0)) := heap_alloc_new w _
  have hr1 : ∀ w', w'.heap[w.heap.size]? = some (.cells (outC p).toArray 101 (0, 0)) → rowOf w' w.heap.size 0 33 = some (outC p) := fun w' hw => by
    have := rowOf_block hw 0 33 (by simp [outC_length])
    rw [this]; congr 1; simp; exact List.take_of_length_le (by rw [outC_length]; exact Nat.le_refl _)
  have h1 := h.alloc (.cells (outC p).toArray 101)
  have hlt := h.lt
  have hs1 : (w.alloc (.cells (outC p).toArray 101)).heap.size = w.heap.size + 1 := by simp
  have hK1 := hK.keep hk1
  have hB : bs ++ outB p = (bs ++ le 8 (u64N p.value)) ++ p.lock.val := by unfold outB; rw [List.append_assoc]
  replace hB := Box.mk hB
  replace h := Box.mk h
  replace hK := Box.mk hK
  obtain ⟨c1, c2⟩ := out_row (hr1 _ hH1)
  go_enter Try.func87, Try.ntmps87
  go_wp2_with fail
  generalize w.alloc (.cells (outC p).toArray 101) = w1 at *
  rw [u64N_wrap]
  refine (put_any (u64N p.value) 8 w1 (u64N_lt _)).mono ?_
  rintro e w2 ⟨rfl, hb2⟩
  rw [show putL (u64N p.value) 8 = le 8 (u64N p.value) from putL_nat _ 8 (by omega) (by omega)]
  have h2 := h1.below hb2
  have hk2 := hk1.next (Nat.le_of_lt h1.lt) hb2
  replace h1 := Box.mk h1
  go_wp2_with fail
  refine (ws_any (le 8 (u64N p.value)) h2 (by rw [le_length]; omega)).mono ?_
  rintro e w3 ⟨rfl, h3, hk3⟩
  have hH3 := hk3.heap (by rw [hb2.block w.heap.size (by omega)]; exact hH1) (by omega) (by decide)
  have hs3 := hk3.size
  have hs2 := hb2.size
  obtain ⟨c3, c4⟩ := out_row (hr1 _ hH3)
  obtain ⟨d1, d2⟩ := ((hK1.keep (Kp.of hb2 (Nat.le_of_lt h1.out.lt))).keep hk3).cell
  replace hr1 := Box.mk hr1
  replace h2 := Box.mk h2
  replace hK1 := Box.mk hK1
  clear c1 c2 c4
  have hw : w.heap.size < w3.heap.size := by omega
  go_wp2_with fail
  refine (enc1_any p.lock h3 (by rw [List.length_append, le_length]; omega)).mono ?_
  rintro e w4 ⟨rfl, h4, hk4⟩
  rw [← hB.out] at h4
  replace h3 := Box.mk h3
  replace h4 := Box.mk h4
  go_wp2
  go_end0
  exact ⟨rfl, h4.out, (hk2.trans hk3).trans hk4⟩

/-- What is written of a list's elements, from place i on. -/
def catF {α : Type} (F : Nat → α → List UInt8) : Nat → List α → List UInt8
  | _, [] => []
  | i, x :: l => F i x ++ catF F (i + 1) l
theorem catF_append {α : Type} (F : Nat → α → List UInt8) : ∀ (l m : List α) (i : Nat), catF F i (l ++ m) = catF F i l ++ catF F (i + l.length) m
  | [], m, i => by simp [catF]
  | x :: l, m, i => by
    rw [List.cons_append, catF, catF_append F l m (i + 1), catF, List.append_assoc, List.length_cons, show i + 1 + l.length = i + (l.length + 1) from by omega]
theorem catF_succ {α : Type} {F : Nat → α → List UInt8} {l : List α} {j : Nat} {x : α} (h : l[j]? = some x) : catF F 0 (l.take (j + 1)) = catF F 0 (l.take j) ++ F j x := by
  have hj := (List.getElem?_eq_some_iff.1 h).1
  rw [List.take_add_one, h, catF_append, List.length_take, Nat.min_eq_left (by omega), Nat.zero_add]
  show _ ++ (F j x ++ []) = _
  rw [List.append_nil]
theorem catF_length {α : Type} {F : Nat → α → List UInt8} {m : Nat} (hF : ∀ i x, (F i x).length ≤ m) : ∀ (l : List α) (i : Nat), (catF F i l).length ≤ l.length * m
  | [], i => by simp [catF]
  | x :: l, i => by
    have := catF_length hF l (i + 1)
    have := hF i x
    rw [catF, List.length_append, List.length_cons, Nat.add_mul]; omega
theorem catF_plain {α : Type} (f : α → List UInt8) : ∀ (l : List α) (i : Nat), catF (fun _ x => f x) i l = l.flatMap f
  | [], _ => rfl
  | x :: l, i => by rw [catF, catF_plain f l, List.flatMap_cons]

set_option maxHeartbeats 2000000 in
theorem wr_pt (g : Nat) (lb : Array Value) (F : Nat → PointV → List UInt8) (I : Nat → World → Prop) (b : Nat) (a : Option Addr) (n c : Nat) (l : List PointV) (W0 : World)
    (eg : ∀ args w, (callFunc g args).run Try.prog w = .ok (.enter g args) w) (hI : ∀ i w w', I i w → Kp b w w' → I i w')
    (hF : ∀ i x w bs, x ∈ l → Bld w b bs → I i w → bs.length ≤ 80000 → Calls Try.prog g (#[.agg (pointC x).toArray] ++ lb) w (fun e w' => e = .returned (.tuple #[]) ∧ Bld w' b (bs ++ F i x) ∧ I (i + 1) w' ∧ Below b w w'))
    (hFl : ∀ i x, (F i x).length ≤ 64) (hS : SL pointC 33 W0 a n c l) (hb0 : W0.heap.size ≤ b) (hn : n ≤ 40) (w : World) (hW : Below W0.heap.size W0 w) (bs : List UInt8) (hB : Bld w b bs) (hbl : bs.length ≤ 50000) (h0 : I 0 w) :
    Calls Try.prog 84 #[.pointer (some ⟨b, 0, none⟩), .slice a n c, .func (.func g) #[] lb] w (fun e w' => e = .returned (.tuple #[]) ∧ Bld w' b (bs ++ compactL n ++ catF F 0 l) ∧ I n w' ∧ Below b w w') := by
  have hl := Box.mk hS.1
  have hcl : (compactL n).length ≤ 9 := by rw [compactL_length]; split <;> (try split) <;> (try split) <;> omega
  have hn64 : n < 18446744073709551616 := by omega
  replace hS := Box.mk hS
  replace hW := Box.mk hW
  have hIb := Box.mk hI
  replace hI := Box.mk hI
  replace hFl := Box.mk hFl
  go_enter Try.func84, Try.ntmps84
  go_wp2_with fail
  refine (compact_any n w hn64).mono ?_
  rintro e w1 ⟨rfl, hb1⟩
  have h1 := hB.below hb1
  have i1 := hI.out 0 w w1 h0 (Kp.of hb1 (Nat.le_of_lt hB.lt))
  have k1 : Below b w w1 := hb1.mono (Nat.le_of_lt hB.lt)
  replace hB := Box.mk hB
  replace h0 := Box.mk h0
  go_wp2_with fail
  refine (ws_any (compactL n) h1 (by omega)).mono ?_
  rintro e w2 ⟨rfl, h2, hk2⟩
  have i2 := hI.out 0 w1 w2 i1 hk2
  have k2 : Below b w w2 := k1.trans hk2.below
  replace h1 := Box.mk h1
  replace i1 := Box.mk i1
  go_wp2_with fail
  go_loopw [16] (fun i wr => Below b w wr ∧ ∃ j : Nat, j ≤ n ∧ i = .int .i64 j ∧ Bld wr b (bs ++ compactL n ++ catF F 0 (l.take j)) ∧ I j wr) (fun i _ => n - (intOf i).toNat)
  case atStart => exact ⟨k2, 0, Nat.zero_le _, rfl, by rw [List.take_zero]; simpa [catF] using h2, i2⟩
  case round =>
    obtain ⟨hbr, j, hj, rfl, hbd, hi⟩ := hrel
    have hlt0 := hbd.lt
    by_cases hlt : j < n
    · have hlt' : (j : Int) < (n : Int) := by omega
      have hjl : j < l.length := by rw [← hl.out]; exact hlt
      have hx : l[j]? = some l[j] := List.getElem?_eq_getElem hjl
      have hmem := List.getElem_mem hjl
      obtain ⟨b0, o, rfl, hb0', hr⟩ := SL.elem pointC_length hS.out hx
      have R1 : rowOf wr b0 (o + j * 33) 33 = some (pointC l[j]) := by rw [rowOf_congr (hbr.block b0 (by omega)), rowOf_congr (hW.out.block b0 hb0')]; exact hr
      have s1 : b0 < wr.heap.size := by omega
      have hcs := catF_succ (F := F) hx
      have hcl2 : (catF F 0 (l.take j)).length ≤ 40 * 64 := by
        have := catF_length hFl.out (l.take j) 0
        rw [List.length_take] at this
        have h3 : min j l.length * 64 ≤ 40 * 64 := Nat.mul_le_mul_right _ (by omega)
        omega
      generalize l[j] = v at *
      have hBa : Below wr.heap.size wr (wr.alloc (.cells (pointC v).toArray 59)) := (Below.refl _ _).alloc (Nat.le_refl _) _
      have hV : rowOf (wr.alloc (.cells (pointC v).toArray 59)) wr.heap.size 0 33 = some (pointC v) := rowOf_alloc_new _ _ _ _ _ _ rfl (pointC_length v)
      have hcall := hF j v (wr.alloc (.cells (pointC v).toArray 59)) (bs ++ compactL n ++ catF F 0 (l.take j)) hmem (hbd.below hBa) (hI.out j wr _ hi (Kp.of hBa (Nat.le_of_lt hlt0))) (by simp only [List.length_append]; omega)
      have hbr2 : Below b w (wr.alloc (.cells (pointC v).toArray 59)) := hbr.trans (hBa.mono (Nat.le_of_lt hlt0))
      rw [List.append_assoc _ _ (F j v), ← hcs] at hcall
      replace hcs := Box.mk hcs
      replace hbd := Box.mk hbd
      replace hi := Box.mk hi
      replace hcall := Box.mk hcall
      replace hx := Box.mk hx
      replace hr := Box.mk hr
      replace hmem := Box.mk hmem
      go_wp2_with fail
      generalize wr.alloc (.cells (pointC v).toArray 59) = w3 at *
      refine hcall.out.mono ?_
      rintro e w4 ⟨rfl, h4, hi4, hb4⟩
      replace h4 := Box.mk h4
      replace hi4 := Box.mk hi4
      go_wp2
      go_roundw
      case rel => exact ⟨hbr2.trans hb4, j + 1, by omega, by go_num, h4.out, hi4.out⟩
      case measure => simp [intOf]; omega
    · obtain rfl : j = n := by omega
      have ht : l.take j = l := by rw [hl.out, List.take_length]
      rw [ht] at hbd
      replace hbd := Box.mk hbd
      replace hi := Box.mk hi
      replace ht := Box.mk ht
      go_wp2
      go_end0
      exact ⟨rfl, hbd.out, hi.out, hbr⟩

set_option maxHeartbeats 2000000 in
theorem wr_out (g : Nat) (lb : Array Value) (F : Nat → OutV → List UInt8) (I : Nat → World → Prop) (b : Nat) (a : Option Addr) (n c : Nat) (l : List OutV) (W0 : World)
    (eg : ∀ args w, (callFunc g args).run Try.prog w = .ok (.enter g args) w) (hI : ∀ i w w', I i w → Kp b w w' → I i w')
    (hF : ∀ i x w bs, x ∈ l → Bld w b bs → I i w → bs.length ≤ 80000 → Calls Try.prog g (#[.agg (outC x).toArray] ++ lb) w (fun e w' => e = .returned (.tuple #[]) ∧ Bld w' b (bs ++ F i x) ∧ I (i + 1) w' ∧ Below b w w'))
    (hFl : ∀ i x, (F i x).length ≤ 64) (hS : SL outC 33 W0 a n c l) (hb0 : W0.heap.size ≤ b) (hn : n ≤ 40) (w : World) (hW : Below W0.heap.size W0 w) (bs : List UInt8) (hB : Bld w b bs) (hbl : bs.length ≤ 50000) (h0 : I 0 w) :
    Calls Try.prog 86 #[.pointer (some ⟨b, 0, none⟩), .slice a n c, .func (.func g) #[] lb] w (fun e w' => e = .returned (.tuple #[]) ∧ Bld w' b (bs ++ compactL n ++ catF F 0 l) ∧ I n w' ∧ Below b w w') := by
  have hl := Box.mk hS.1
  have hcl : (compactL n).length ≤ 9 := by rw [compactL_length]; split <;> (try split) <;> (try split) <;> omega
  have hn64 : n < 18446744073709551616 := by omega
  replace hS := Box.mk hS
  replace hW := Box.mk hW
  have hIb := Box.mk hI
  replace hI := Box.mk hI
  replace hFl := Box.mk hFl
  go_enter Try.func86, Try.ntmps86
  go_wp2_with fail
  refine (compact_any n w hn64).mono ?_
  rintro e w1 ⟨rfl, hb1⟩
  have h1 := hB.below hb1
  have i1 := hI.out 0 w w1 h0 (Kp.of hb1 (Nat.le_of_lt hB.lt))
  have k1 : Below b w w1 := hb1.mono (Nat.le_of_lt hB.lt)
  replace hB := Box.mk hB
  replace h0 := Box.mk h0
  go_wp2_with fail
  refine (ws_any (compactL n) h1 (by omega)).mono ?_
  rintro e w2 ⟨rfl, h2, hk2⟩
  have i2 := hI.out 0 w1 w2 i1 hk2
  have k2 : Below b w w2 := k1.trans hk2.below
  replace h1 := Box.mk h1
  replace i1 := Box.mk i1
  go_wp2_with fail
  go_loopw [16] (fun i wr => Below b w wr ∧ ∃ j : Nat, j ≤ n ∧ i = .int .i64 j ∧ Bld wr b (bs ++ compactL n ++ catF F 0 (l.take j)) ∧ I j wr) (fun i _ => n - (intOf i).toNat)
  case atStart => exact ⟨k2, 0, Nat.zero_le _, rfl, by rw [List.take_zero]; simpa [catF] using h2, i2⟩
  case round =>
    obtain ⟨hbr, j, hj, rfl, hbd, hi⟩ := hrel
    have hlt0 := hbd.lt
    by_cases hlt : j < n
    · have hlt' : (j : Int) < (n : Int) := by omega
      have hjl : j < l.length := by rw [← hl.out]; exact hlt
      have hx : l[j]? = some l[j] := List.getElem?_eq_getElem hjl
      have hmem := List.getElem_mem hjl
      obtain ⟨b0, o, rfl, hb0', hr⟩ := SL.elem outC_length hS.out hx
      have R1 : rowOf wr b0 (o + j * 33) 33 = some (outC l[j]) := by rw [rowOf_congr (hbr.block b0 (by omega)), rowOf_congr (hW.out.block b0 hb0')]; exact hr
      have s1 : b0 < wr.heap.size := by omega
      have hcs := catF_succ (F := F) hx
      have hcl2 : (catF F 0 (l.take j)).length ≤ 40 * 64 := by
        have := catF_length hFl.out (l.take j) 0
        rw [List.length_take] at this
        have h3 : min j l.length * 64 ≤ 40 * 64 := Nat.mul_le_mul_right _ (by omega)
        omega
      generalize l[j] = v at *
      have hBa : Below wr.heap.size wr (wr.alloc (.cells (outC v).toArray 101)) := (Below.refl _ _).alloc (Nat.le_refl _) _
      have hV : rowOf (wr.alloc (.cells (outC v).toArray 101)) wr.heap.size 0 33 = some (outC v) := rowOf_alloc_new _ _ _ _ _ _ rfl (outC_length v)
      have hcall := hF j v (wr.alloc (.cells (outC v).toArray 101)) (bs ++ compactL n ++ catF F 0 (l.take j)) hmem (hbd.below hBa) (hI.out j wr _ hi (Kp.of hBa (Nat.le_of_lt hlt0))) (by simp only [List.length_append]; omega)
      have hbr2 : Below b w (wr.alloc (.cells (outC v).toArray 101)) := hbr.trans (hBa.mono (Nat.le_of_lt hlt0))
      rw [List.append_assoc _ _ (F j v), ← hcs] at hcall
      replace hcs := Box.mk hcs
      replace hbd := Box.mk hbd
      replace hi := Box.mk hi
      replace hcall := Box.mk hcall
      replace hx := Box.mk hx
      replace hr := Box.mk hr
      replace hmem := Box.mk hmem
      go_wp2_with fail
      generalize wr.alloc (.cells (outC v).toArray 101) = w3 at *
      refine hcall.out.mono ?_
      rintro e w4 ⟨rfl, h4, hi4, hb4⟩
      replace h4 := Box.mk h4
      replace hi4 := Box.mk hi4
      go_wp2
      go_roundw
      case rel => exact ⟨hbr2.trans hb4, j + 1, by omega, by go_num, h4.out, hi4.out⟩
      case measure => simp [intOf]; omega
    · obtain rfl : j = n := by omega
      have ht : l.take j = l := by rw [hl.out, List.take_length]
      rw [ht] at hbd
      replace hbd := Box.mk hbd
      replace hi := Box.mk hi
      replace ht := Box.mk ht
      go_wp2
      go_end0
      exact ⟨rfl, hbd.out, hi.out, hbr⟩

set_option maxHeartbeats 2000000 in
theorem wr_key (g : Nat) (lb : Array Value) (F : Nat → Key → List UInt8) (I : Nat → World → Prop) (b : Nat) (a : Option Addr) (n c : Nat) (l : List Key) (W0 : World)
    (eg : ∀ args w, (callFunc g args).run Try.prog w = .ok (.enter g args) w) (hI : ∀ i w w', I i w → Kp b w w' → I i w')
    (hF : ∀ i x w bs, x ∈ l → Bld w b bs → I i w → bs.length ≤ 80000 → Calls Try.prog g (#[.agg (keyC x).toArray] ++ lb) w (fun e w' => e = .returned (.tuple #[]) ∧ Bld w' b (bs ++ F i x) ∧ I (i + 1) w' ∧ Below b w w'))
    (hFl : ∀ i x, (F i x).length ≤ 64) (hS : SL keyC 32 W0 a n c l) (hb0 : W0.heap.size ≤ b) (hn : n ≤ 40) (w : World) (hW : Below W0.heap.size W0 w) (bs : List UInt8) (hB : Bld w b bs) (hbl : bs.length ≤ 50000) (h0 : I 0 w) :
    Calls Try.prog 88 #[.pointer (some ⟨b, 0, none⟩), .slice a n c, .func (.func g) #[] lb] w (fun e w' => e = .returned (.tuple #[]) ∧ Bld w' b (bs ++ compactL n ++ catF F 0 l) ∧ I n w' ∧ Below b w w') := by
  have hl := Box.mk hS.1
  have hcl : (compactL n).length ≤ 9 := by rw [compactL_length]; split <;> (try split) <;> (try split) <;> omega
  have hn64 : n < 18446744073709551616 := by omega
  replace hS := Box.mk hS
  replace hW := Box.mk hW
  have hIb := Box.mk hI
  replace hI := Box.mk hI
  replace hFl := Box.mk hFl
  go_enter Try.func88, Try.ntmps88
  go_wp2_with fail
  refine (compact_any n w hn64).mono ?_
  rintro e w1 ⟨rfl, hb1⟩
  have h1 := hB.below hb1
  have i1 := hI.out 0 w w1 h0 (Kp.of hb1 (Nat.le_of_lt hB.lt))
  have k1 : Below b w w1 := hb1.mono (Nat.le_of_lt hB.lt)
  replace hB := Box.mk hB
  replace h0 := Box.mk h0
  go_wp2_with fail
  refine (ws_any (compactL n) h1 (by omega)).mono ?_
  rintro e w2 ⟨rfl, h2, hk2⟩
  have i2 := hI.out 0 w1 w2 i1 hk2
  have k2 : Below b w w2 := k1.trans hk2.below
  replace h1 := Box.mk h1
  replace i1 := Box.mk i1
  go_wp2_with fail
  go_loopw [16] (fun i wr => Below b w wr ∧ ∃ j : Nat, j ≤ n ∧ i = .int .i64 j ∧ Bld wr b (bs ++ compactL n ++ catF F 0 (l.take j)) ∧ I j wr) (fun i _ => n - (intOf i).toNat)
  case atStart => exact ⟨k2, 0, Nat.zero_le _, rfl, by rw [List.take_zero]; simpa [catF] using h2, i2⟩
  case round =>
    obtain ⟨hbr, j, hj, rfl, hbd, hi⟩ := hrel
    have hlt0 := hbd.lt
    by_cases hlt : j < n
    · have hlt' : (j : Int) < (n : Int) := by omega
      have hjl : j < l.length := by rw [← hl.out]; exact hlt
      have hx : l[j]? = some l[j] := List.getElem?_eq_getElem hjl
      have hmem := List.getElem_mem hjl
      obtain ⟨b0, o, rfl, hb0', hr⟩ := SL.elem keyC_length hS.out hx
      have R1 : rowOf wr b0 (o + j * 32) 32 = some (keyC l[j]) := by rw [rowOf_congr (hbr.block b0 (by omega)), rowOf_congr (hW.out.block b0 hb0')]; exact hr
      have s1 : b0 < wr.heap.size := by omega
      have hcs := catF_succ (F := F) hx
      have hcl2 : (catF F 0 (l.take j)).length ≤ 40 * 64 := by
        have := catF_length hFl.out (l.take j) 0
        rw [List.length_take] at this
        have h3 : min j l.length * 64 ≤ 40 * 64 := Nat.mul_le_mul_right _ (by omega)
        omega
      generalize l[j] = v at *
      have hBa : Below wr.heap.size wr (wr.alloc (.cells (keyC v).toArray 38)) := (Below.refl _ _).alloc (Nat.le_refl _) _
      have hV : rowOf (wr.alloc (.cells (keyC v).toArray 38)) wr.heap.size 0 32 = some (keyC v) := rowOf_alloc_new _ _ _ _ _ _ rfl (keyC_length v)
      have hcall := hF j v (wr.alloc (.cells (keyC v).toArray 38)) (bs ++ compactL n ++ catF F 0 (l.take j)) hmem (hbd.below hBa) (hI.out j wr _ hi (Kp.of hBa (Nat.le_of_lt hlt0))) (by simp only [List.length_append]; omega)
      have hbr2 : Below b w (wr.alloc (.cells (keyC v).toArray 38)) := hbr.trans (hBa.mono (Nat.le_of_lt hlt0))
      rw [List.append_assoc _ _ (F j v), ← hcs] at hcall
      replace hcs := Box.mk hcs
      replace hbd := Box.mk hbd
      replace hi := Box.mk hi
      replace hcall := Box.mk hcall
      replace hx := Box.mk hx
      replace hr := Box.mk hr
      replace hmem := Box.mk hmem
      go_wp2_with fail
      generalize wr.alloc (.cells (keyC v).toArray 38) = w3 at *
      refine hcall.out.mono ?_
      rintro e w4 ⟨rfl, h4, hi4, hb4⟩
      replace h4 := Box.mk h4
      replace hi4 := Box.mk hi4
      go_wp2
      go_roundw
      case rel => exact ⟨hbr2.trans hb4, j + 1, by omega, by go_num, h4.out, hi4.out⟩
      case measure => simp [intOf]; omega
    · obtain rfl : j = n := by omega
      have ht : l.take j = l := by rw [hl.out, List.take_length]
      rw [ht] at hbd
      replace hbd := Box.mk hbd
      replace hi := Box.mk hi
      replace ht := Box.mk ht
      go_wp2
      go_end0
      exact ⟨rfl, hbd.out, hi.out, hbr⟩

end Go.Proofs.Ytahkiabpjfcfdaa

namespace Go.Proofs.Ytahkiabpjfcfdaa
set_option maxRecDepth 100000
open Go.RowKit Go.ChangeShapes Go.WideShapes Go.Deep
section
variable {H : Type} {enc : TypeId × Value → H} {P : Program} {w : World} {base : Nat} {spare : Nat → Bool} {held : Bool}

def byteOf' (v : Value) : UInt8 := match v with | .int _ n => n.toNat.toUInt8 | _ => 0

theorem trod_key {t e : TypeId} {fuel : Nat} {cs : List Value} {x : DataW H × List MemPlace} (ht : P.underlying t = some (.array 32 e)) (he : P.underlying e = some (.int .u8)) (hc : P.cellsOf e = 1) (hct : P.cellsOf t = 32)
    (h : DataW.trod enc P w base spare held fuel t cs = some x) : ∃ k : Key, cs = keyC k := by
  obtain ⟨xs, m, _, _, hl, hx, hi⟩ := DataW.trod_array ht h
  rw [hct] at hl
  refine ⟨⟨cs.map byteOf', by simp [hl]⟩, ?_⟩
  unfold keyC
  simp only [List.map_map]
  refine List.ext_getElem? fun i => ?_
  simp only [List.getElem?_map]
  by_cases hlt : i < 32
  · have h1 := hi i hlt
    rw [hc, Nat.mul_one] at h1
    have hxi : xs[i]? = some (xs[i]'(by omega)) := List.getElem?_eq_getElem (by omega)
    rw [hxi] at h1
    obtain ⟨n, hn, _, hwf⟩ := DataW.trod_int he h1
    have hci : cs[i]? = some (cs[i]'(by omega)) := List.getElem?_eq_getElem (by omega)
    rw [List.drop_eq_getElem_cons (by omega)] at hn
    simp only [List.take_succ_cons, List.take_zero, List.cons.injEq, and_true] at hn
    rw [hci, hn]
    have hb := bounds_u8 hwf
    simp [byteOf', Extern.Stop.cell]
    omega
  · rw [List.getElem?_eq_none (by omega)]; rfl

/-- A slice of rows: it lies in the world w, and its elements are l. -/
def SlHas {α : Type} (w : World) (a : Option Addr) (len cap n : Nat) (f : α → List Value) (l : List α) : Prop :=
  len = l.length ∧ len ≤ cap ∧ cap ≤ maxLen ∧ (a = none → cap = 0) ∧
    ∀ i x, l[i]? = some x → ∃ b o, a = some ⟨b, o, none⟩ ∧ b < w.heap.size ∧ rowOf w b (o + i * n) n = some (f x)

theorem row_of_cells {a : Addr} {n : Nat} {cs : List Value} (hn : 0 < n) (h : w.cells? base a n = some cs) : ∃ b o, a = ⟨b, o, none⟩ ∧ b < w.heap.size ∧ rowOf w b o n = some cs := by
  obtain ⟨_, hl, hat⟩ := World.cells?_some h
  have h0 := hat 0 hn
  have hsome : w.cell? a = some (cs[0]'(by omega)) := by
    have e : a.add 0 = a := rfl
    rw [e] at h0
    rw [h0, List.getElem?_eq_getElem (by omega)]
  have hb := block_lt_of_cell hsome
  have hs : a.spot = none := by
    cases hsp : a.spot with
    | none => rfl
    | some s => simp [World.cell?, hsp] at hsome; split at hsome <;> simp at hsome
  obtain ⟨b, o, s⟩ := a
  simp only at hs
  subst hs
  refine ⟨b, o, rfl, hb, rowOf_some.2 ⟨hl, fun j v hv => ?_⟩⟩
  have hj : j < cs.length := (List.getElem?_eq_some_iff.1 hv).1
  have := hat j (by omega)
  rw [Addr.add_mid] at this
  rw [this, hv]

theorem trod_slice_rows {α : Type} {t e : TypeId} {fuel n : Nat} {cs : List Value} {x : DataW H × List MemPlace} (f : α → List Value) (hn : 0 < n) (ht : P.underlying t = some (.slice e)) (hc : P.cellsOf e = n)
    (hel : ∀ (m : Nat) (cs : List Value) (x : DataW H × List MemPlace), DataW.trod enc P w base spare held m e cs = some x → ∃ y : α, cs = f y)
    (h : DataW.trod enc P w base spare held fuel t cs = some x) : ∃ (a : Option Addr) (len cap : Nat) (l : List α), cs = [.slice a len cap] ∧ SlHas w a len cap n f l := by
  rcases open_slice ht h with ⟨rfl, _⟩ | ⟨a, len, cap, m, k, D, Pl, rfl, _, hl, hm, hmm, _, hi⟩
  · exact ⟨none, 0, 0, [], rfl, rfl, Nat.le_refl _, by unfold maxLen; omega, fun _ => rfl, fun i x h => by simp at h⟩
  · have hlm : len ≤ m := by rw [hmm]; split <;> omega
    by_cases hE : len = 0
    · subst hE
      exact ⟨some a, 0, cap, [], rfl, rfl, hl, hm, (fun h => nomatch h), fun i x h => by simp at h⟩
    · have hne : Nonempty α := by
        obtain ⟨cs', _, h2⟩ := hi 0 (by omega)
        obtain ⟨y, _⟩ := hel _ _ _ h2
        exact ⟨y⟩
      have : Inhabited α := ⟨Classical.choice hne⟩
      obtain ⟨Y, hY⟩ := choose_lt (α := α) (n := len) (p := fun i y => w.cells? base (a.add (i * n)) n = some (f y)) (fun i hlt => by
        obtain ⟨cs', h1, h2⟩ := hi i (by omega)
        obtain ⟨y, rfl⟩ := hel _ _ _ h2
        rw [hc] at h1
        exact ⟨y, h1⟩)
      refine ⟨some a, len, cap, (List.range len).map Y, rfl, by simp, hl, hm, (fun h => nomatch h), fun i y hy => ?_⟩
      have hi' : i < len := by
        have := (List.getElem?_eq_some_iff.1 hy).1
        simpa using this
      have hy' : Y i = y := by simpa [List.getElem?_map, List.getElem?_range, hi'] using hy
      obtain ⟨b, o, e0, hb, h0⟩ := row_of_cells hn (hY 0 (by omega))
      have e0' : a = ⟨b, o, none⟩ := by simpa [Addr.add] using e0
      subst e0'
      refine ⟨b, o, rfl, hb, ?_⟩
      obtain ⟨b', o', e1, _, h1⟩ := row_of_cells hn (hY i hi')
      rw [Addr.add_mid] at e1
      injection e1 with e2 e3
      subst e2 e3
      rw [h1, hy']
end
end Go.Proofs.Ytahkiabpjfcfdaa

namespace Go.Proofs.Ytahkiabpjfcfdaa
set_option maxRecDepth 100000
open Go.RowKit Go.ChangeShapes Go.WideShapes Go.Deep
set_option linter.unusedVariables false
section
variable {H : Type} {enc : TypeId × Value → H} {w : World} {base : Nat} {spare : Nat → Bool} {held : Bool}

theorem drop_split {α : Type} (l : List α) (a n b : Nat) (hb : b = a + n) : l.drop a = (l.drop a).take n ++ l.drop b := by
  subst hb
  rw [← List.drop_drop, List.take_append_drop]

theorem trod_key' {fuel : Nat} {cs : List Value} {x : DataW H × List MemPlace} (h : DataW.trod enc Try.prog w base spare held fuel 38 cs = some x) : ∃ k : Key, cs = keyC k :=
  trod_key Try.underlying38 Try.underlying5 (by kernel_rfl) (by kernel_rfl) h

theorem trod_point {fuel : Nat} {cs : List Value} {x : DataW H × List MemPlace} (h : DataW.trod enc Try.prog w base spare held fuel 59 cs = some x) : ∃ p : PointV, cs = pointC p ∧ 0 ≤ p.idx ∧ p.idx ≤ 4294967295 := by
  obtain ⟨xs, n, _, _, hl, hxl, hf⟩ := DataW.trod_struct Try.underlying59 h
  have hxl' : xs.length = 2 := hxl
  have h0 := hf 0 _ rfl
  have h1 := hf 1 _ rfl
  have c0 : Try.prog.cellsOf 38 = 32 := by kernel_rfl
  have c1 : Try.prog.cellsOf 34 = 1 := by kernel_rfl
  have cl : cs.length = 33 := hl.trans (by kernel_rfl)
  obtain ⟨y0, e0⟩ : ∃ y, xs[0]? = some y := ⟨xs[0]'(by omega), List.getElem?_eq_getElem (by omega)⟩
  obtain ⟨y1, e1⟩ : ∃ y, xs[1]? = some y := ⟨xs[1]'(by omega), List.getElem?_eq_getElem (by omega)⟩
  rw [e0] at h0; rw [e1] at h1
  simp only [List.getElem_toArray, List.getElem_cons_zero, List.getElem_cons_succ] at h0 h1
  rw [c0] at h0; rw [c1] at h1
  obtain ⟨k, hk⟩ := trod_key' h0
  obtain ⟨i, hi, _, hw⟩ := DataW.trod_int Try.underlying34 h1
  refine ⟨⟨k, i⟩, ?_, (bounds_u32 hw).1, (bounds_u32 hw).2⟩
  have : cs = cs.drop 0 := rfl
  rw [this, drop_split cs 0 32 32 rfl, drop_split cs 32 1 33 rfl, hk, hi, List.drop_of_length_le (by omega)]
  unfold pointC; simp

theorem trod_out {fuel : Nat} {cs : List Value} {x : DataW H × List MemPlace} (h : DataW.trod enc Try.prog w base spare held fuel 101 cs = some x) : ∃ p : OutV, cs = outC p ∧ -9223372036854775808 ≤ p.value ∧ p.value ≤ 9223372036854775807 := by
  obtain ⟨xs, n, _, _, hl, hxl, hf⟩ := DataW.trod_struct Try.underlying101 h
  have hxl' : xs.length = 2 := hxl
  have h0 := hf 0 _ rfl
  have h1 := hf 1 _ rfl
  have c0 : Try.prog.cellsOf 38 = 32 := by kernel_rfl
  have c1 : Try.prog.cellsOf 2 = 1 := by kernel_rfl
  have cl : cs.length = 33 := hl.trans (by kernel_rfl)
  obtain ⟨y0, e0⟩ : ∃ y, xs[0]? = some y := ⟨xs[0]'(by omega), List.getElem?_eq_getElem (by omega)⟩
  obtain ⟨y1, e1⟩ : ∃ y, xs[1]? = some y := ⟨xs[1]'(by omega), List.getElem?_eq_getElem (by omega)⟩
  rw [e0] at h0; rw [e1] at h1
  simp only [List.getElem_toArray, List.getElem_cons_zero, List.getElem_cons_succ] at h0 h1
  rw [c1] at h0; rw [c0] at h1
  obtain ⟨k, hk⟩ := trod_key' h1
  obtain ⟨i, hi, _, hw⟩ := DataW.trod_int Try.underlying2 h0
  refine ⟨⟨i, k⟩, ?_, (bounds_i64 hw).1, (bounds_i64 hw).2⟩
  have : cs = cs.drop 0 := rfl
  rw [this, drop_split cs 0 1 1 rfl, drop_split cs 1 32 33 rfl, hk, hi, List.drop_of_length_le (by omega)]
  unfold outC; simp

/-- What a transaction's slices hold in a world. -/
structure TxHas (w : World) (t : TxV) (insL : List PointV) (outsL : List OutV) (nullsL notesL : List Key) : Prop where
  ins : SlHas w t.ins.a t.ins.len t.ins.cap 33 pointC insL
  outs : SlHas w t.outs.a t.outs.len t.outs.cap 33 outC outsL
  nulls : SlHas w t.nulls.a t.nulls.len t.nulls.cap 32 keyC nullsL
  notes : SlHas w t.notes.a t.notes.len t.notes.cap 32 keyC notesL
  idx : ∀ p : PointV, p ∈ insL → 0 ≤ p.idx ∧ p.idx ≤ 4294967295
  val : ∀ p : OutV, p ∈ outsL → -9223372036854775808 ≤ p.value ∧ p.value ≤ 9223372036854775807
  exp : 0 ≤ t.exp ∧ t.exp ≤ 4294967295
  bal : -9223372036854775808 ≤ t.bal ∧ t.bal ≤ 9223372036854775807

theorem SlHas.sub {α : Type} {w : World} {a : Option Addr} {len cap n : Nat} {f : α → List Value} {p : α → Prop} {l : List { x : α // p x }} (h : SlHas w a len cap n (fun x => f x.1) l) : SlHas w a len cap n f (l.map (·.1)) := by
  obtain ⟨h1, h2, h3, h4, h5⟩ := h
  refine ⟨by simpa using h1, h2, h3, h4, fun i x hx => ?_⟩
  rw [List.getElem?_map, Option.map_eq_some_iff] at hx
  obtain ⟨y, hy, rfl⟩ := hx
  exact h5 i y hy

theorem trod_tx {fuel : Nat} {cs : List Value} {x : DataW H × List MemPlace} (h : DataW.trod enc Try.prog w base spare held fuel 41 cs = some x) :
    ∃ (t : TxV) (ins : List PointV) (outs : List OutV) (nulls notes : List Key), cs = txC t ∧ TxHas w t ins outs nulls notes := by
  obtain ⟨xs, n, _, _, hl, hxl, hf⟩ := DataW.trod_struct Try.underlying41 h
  have h0 := hf 0 _ rfl
  have h1 := hf 1 _ rfl
  have h2 := hf 2 _ rfl
  have h3 := hf 3 _ rfl
  have h4 := hf 4 _ rfl
  have h5 := hf 5 _ rfl
  have h6 := hf 6 _ rfl
  have hxl' : xs.length = 7 := hxl
  have c0 : Try.prog.cellsOf 34 = 1 := by kernel_rfl
  have c1 : Try.prog.cellsOf 35 = 1 := by kernel_rfl
  have c2 : Try.prog.cellsOf 36 = 1 := by kernel_rfl
  have c3 : Try.prog.cellsOf 38 = 32 := by kernel_rfl
  have c4 : Try.prog.cellsOf 39 = 1 := by kernel_rfl
  have c6 : Try.prog.cellsOf 2 = 1 := by kernel_rfl
  have cl : cs.length = 38 := hl.trans (by kernel_rfl)
  have hy : ∀ i, i < 7 → ∃ y, xs[i]? = some y := fun i hi => ⟨xs[i]'(by omega), List.getElem?_eq_getElem (by omega)⟩
  obtain ⟨y0, e0⟩ := hy 0 (by omega)
  obtain ⟨y1, e1⟩ := hy 1 (by omega)
  obtain ⟨y2, e2⟩ := hy 2 (by omega)
  obtain ⟨y3, e3⟩ := hy 3 (by omega)
  obtain ⟨y4, e4⟩ := hy 4 (by omega)
  obtain ⟨y5, e5⟩ := hy 5 (by omega)
  obtain ⟨y6, e6⟩ := hy 6 (by omega)
  rw [e0] at h0; rw [e1] at h1; rw [e2] at h2; rw [e3] at h3; rw [e4] at h4; rw [e5] at h5; rw [e6] at h6
  simp only [List.getElem_toArray, List.getElem_cons_zero, List.getElem_cons_succ] at h0 h1 h2 h3 h4 h5 h6
  rw [c0] at h0; rw [c1] at h1; rw [c2] at h2; rw [c3] at h3; rw [c4] at h4 h5; rw [c6] at h6
  obtain ⟨ex, hex, _, hw0⟩ := DataW.trod_int Try.underlying34 h0
  obtain ⟨a1, l1, p1, s1, k1, H1⟩ := trod_slice_rows (α := { p : PointV // 0 ≤ p.idx ∧ p.idx ≤ 4294967295 }) (fun p => pointC p.1) (by omega : 0 < 33) Try.underlying35 (by kernel_rfl) (fun m cs x h => by obtain ⟨p, hp, hb⟩ := trod_point h; exact ⟨⟨p, hb⟩, hp⟩) h1
  obtain ⟨a2, l2, p2, s2, k2, H2⟩ := trod_slice_rows (α := { p : OutV // -9223372036854775808 ≤ p.value ∧ p.value ≤ 9223372036854775807 }) (fun p => outC p.1) (by omega : 0 < 33) Try.underlying36 (by kernel_rfl) (fun m cs x h => by obtain ⟨p, hp, hb⟩ := trod_out h; exact ⟨⟨p, hb⟩, hp⟩) h2
  obtain ⟨k, hk⟩ := trod_key' h3
  obtain ⟨a4, l4, p4, s4, k4, H4⟩ := trod_slice_rows keyC (by omega : 0 < 32) Try.underlying39 (by kernel_rfl) (fun m cs x h => trod_key' h) h4
  obtain ⟨a5, l5, p5, s5, k5, H5⟩ := trod_slice_rows keyC (by omega : 0 < 32) Try.underlying39 (by kernel_rfl) (fun m cs x h => trod_key' h) h5
  obtain ⟨bl, hbl, _, hw6⟩ := DataW.trod_int Try.underlying2 h6
  refine ⟨⟨ex, ⟨a1, l1, p1⟩, ⟨a2, l2, p2⟩, k, ⟨a4, l4, p4⟩, ⟨a5, l5, p5⟩, bl⟩, s1.map (·.1), s2.map (·.1), s4, s5, ?_, ?_⟩
  · have : cs = cs.drop 0 := rfl
    rw [this, drop_split cs 0 1 1 rfl, drop_split cs 1 1 2 rfl, drop_split cs 2 1 3 rfl, drop_split cs 3 32 35 rfl, drop_split cs 35 1 36 rfl, drop_split cs 36 1 37 rfl, drop_split cs 37 1 38 rfl,
      hex, k1, k2, hk, k4, k5, hbl, List.drop_of_length_le (by omega)]
    unfold txC; simp
  · refine ⟨SlHas.sub H1, SlHas.sub H2, H4, H5, ?_, ?_, bounds_u32 hw0, bounds_i64 hw6⟩
    · intro p hp; obtain ⟨y, _, rfl⟩ := List.mem_map.1 hp; exact y.2
    · intro p hp; obtain ⟨y, _, rfl⟩ := List.mem_map.1 hp; exact y.2

theorem open_tx {v : Value} {d : DataW H} {p : List MemPlace} {r : Reach} {b0 : Nat} (hv : Value.okWide Try.prog w r b0 41 v) (h : DataW.Trod enc Try.prog w base spare held 41 v d p) :
    ∃ (t : TxV) (ins : List PointV) (outs : List OutV) (nulls notes : List Key), v = .agg (txC t).toArray ∧ TxHas w t ins outs nulls notes := by
  obtain ⟨cs, rfl, _⟩ := okWide_struct Try.underlying41 hv
  obtain ⟨fuel, hf⟩ := h
  obtain ⟨t, ins, outs, nulls, notes, hc, hh⟩ := trod_tx hf
  simp only [Value.cells] at hc
  exact ⟨t, ins, outs, nulls, notes, by rw [← hc], hh⟩

theorem open_key {v : Value} {d : DataW H} {p : List MemPlace} {r : Reach} {b0 : Nat} (hv : Value.okWide Try.prog w r b0 38 v) (h : DataW.Trod enc Try.prog w base spare held 38 v d p) :
    ∃ k : Key, v = .agg (keyC k).toArray := by
  have hv' := hv
  simp only [Value.okWide, Try.underlying38] at hv'
  obtain ⟨cs, rfl, _⟩ := hv'
  obtain ⟨fuel, hf⟩ := h
  obtain ⟨k, hk⟩ := trod_key' hf
  simp only [Value.cells] at hk
  exact ⟨k, by rw [← hk]⟩
end
end Go.Proofs.Ytahkiabpjfcfdaa

namespace Go.Proofs.Ytahkiabpjfcfdaa
set_option maxRecDepth 100000
open Go.RowKit Go.ChangeShapes Go.WideShapes Go.Deep
set_option linter.unusedVariables false

theorem rows_from {α : Type} {f : α → List Value} {n : Nat} (hf : ∀ x, (f x).length = n) (w : World) (b : Nat) : ∀ (l : List α) (o : Nat), (∀ i x, l[i]? = some x → rowOf w b (o + i * n) n = some (f x)) → rowOf w b o (l.length * n) = some (rows f l)
  | [], o, _ => by rw [rows_nil]; simp [rowOf]
  | x :: l, o, h => by
    have h0 := h 0 x rfl
    rw [Nat.zero_mul, Nat.add_zero] at h0
    have hr := rows_from hf w b l (o + n) (fun i y hy => by
      have := h (i + 1) y (by simpa using hy)
      rw [show o + n + i * n = o + (i + 1) * n from by rw [Nat.add_mul]; omega]
      exact this)
    have := rowOf_join h0 hr
    rw [rows_cons, List.length_cons, show (l.length + 1) * n = n + l.length * n from by rw [Nat.add_mul]; omega]
    exact this
theorem SlHas.sl {α : Type} {f : α → List Value} {n : Nat} (hf : ∀ x, (f x).length = n) {w : World} {a : Option Addr} {len cap : Nat} {l : List α} (h : SlHas w a len cap n f l) : SL f n w a len cap l := by
  obtain ⟨h1, h2, h3, h4, h5⟩ := h
  refine ⟨h1, h2, h3, h4, fun hne => ?_⟩
  cases l with
  | nil => exact absurd rfl hne
  | cons x l =>
    obtain ⟨b, o, e, hb, h0⟩ := h5 0 x rfl
    refine ⟨b, o, e, hb, rows_from hf w b _ o fun i y hy => ?_⟩
    obtain ⟨b', o', e', _, h'⟩ := h5 i y hy
    rw [e] at e'
    injection e' with e'
    injection e' with e1 e2
    subst e1 e2
    exact h'

end Go.Proofs.Ytahkiabpjfcfdaa

namespace Go.Proofs.Ytahkiabpjfcfdaa
set_option maxRecDepth 100000
open Go.RowKit

theorem info_keys : ∃ i, Try.prog.info? 38 = some i ∧ i.size = 32 ∧ i.bytes = 32 ∧ i.zero = some (.agg (keyC zeroKey).toArray) := by
  have h : (Try.prog.info? 38).map (fun i => (i.size, i.bytes, i.zero)) = some (32, 32, some (.agg (keyC zeroKey).toArray)) := by kernel_rfl
  obtain ⟨i, hi, h'⟩ := Option.map_eq_some_iff.1 h
  simp only [Prod.mk.injEq] at h'
  exact ⟨i, hi, h'.1, h'.2.1, h'.2.2⟩
theorem make_key (ρ : Operand → Value) (dst : Option Tmp) (x y : Operand) (t' : TypeId) (pos : String) (after : Array Edge) (guard : Option (Nat × Bool)) (w : World) :
    (execOp ρ ⟨dst, .makeSlice 39 x y, t', pos, after, guard⟩).run Try.prog w = makeTo Try.prog 39 38 (fun k => rows keyC (List.replicate k zeroKey)) w (ρ x) (ρ y) := by
  obtain ⟨i, hi, hs, hb, hz⟩ := info_keys
  exact exec_make Try.underlying39 hi hs hb hz (keyC_length _) (by omega) (by omega) ρ dst x y t' pos after guard w
theorem sizeOf_key (w : World) : (sizeOf 38).run Try.prog w = .ok 32 w := by kernel_rfl
theorem copy_key (ρ : Operand → Value) (dst : Option Tmp) (x y : Operand) (ty : TypeId) (pos : String) (after : Array Edge) (guard : Option (Nat × Bool)) (w : World) :
    (execOp ρ ⟨dst, .call { callee := .builtin .copy, args := #[x, y], argTypes := #[39, 39] }, ty, pos, after, guard⟩).run Try.prog w = copyTo Try.prog 39 ty 32 w (ρ x) (ρ y) :=
  exec_copy Try.underlying39 sizeOf_key ρ dst x y pos after guard w
theorem append_key (ρ : Operand → Value) (dst : Option Tmp) (x y : Operand) (ty : TypeId) (pos : String) (after : Array Edge) (guard : Option (Nat × Bool)) (w : World) :
    (execOp ρ ⟨dst, .call { callee := .builtin .append, args := #[x, y], argTypes := #[39, 39] }, ty, pos, after, guard⟩).run Try.prog w = appTo Try.prog 39 ty w (ρ x) (ρ y) :=
  exec_append _ ty ρ dst x y pos after guard w
/-- A slice of keys of the call's own. -/
abbrev KOwn (w : World) (base : Nat) (v : Value) (l : List Key) : Prop := Own keyC 32 38 w base v l
theorem app_keys {w : World} {base : Nat} {v : Value} {l : List Key} {ty : TypeId} (hown : KOwn w base v l) (hbase : base ≤ w.heap.size) (a : Option Addr) (cap : Nat) (m : List Key) (hm : SL keyC 32 w a m.length cap m) (hne : m ≠ []) (hlen : l.length + m.length ≤ 2000000) :
    ∃ g cap' w', appTo Try.prog 39 ty w v (.slice a m.length cap) = .ok (.value (.slice (some ⟨g, 0, none⟩) (l.length + m.length) cap')) w' ∧ KOwn w' base (.slice (some ⟨g, 0, none⟩) (l.length + m.length) cap') (l ++ m) ∧ w.grownBy w' v.ownBlock ∧ (v.ownBlock = some g ∨ g = w.heap.size) := by
  obtain ⟨i, hi, hs, hb, hz⟩ := info_keys
  exact appTo_own Try.underlying39 hi hs hb hz keyC_length (by omega) keyC_row (by omega) hown hbase a cap m hm hne hlen
theorem app_no_keys {w : World} {ty : TypeId} (u : Option Addr) (len cap : Nat) (hc : len ≤ cap) (hnone : u = none → cap = 0) (a : Option Addr) (c : Nat) : appTo Try.prog 39 ty w (.slice u len cap) (.slice a 0 c) = .ok (.value (.slice u len cap)) w :=
  appTo_none Try.underlying39 sizeOf_key u len cap hc hnone a c

/-- A slice of keys in a world. -/
abbrev KL (w : World) (a : Option Addr) (cap : Nat) (l : List Key) : Prop := SL keyC 32 w a l.length cap l
theorem KL.at {w : World} {a : Option Addr} {cap : Nat} {l : List Key} (h : KL w a cap l) {i : Nat} {x : Key} (hx : l[i]? = some x) : ∃ b o, a = some ⟨b, o, none⟩ ∧ b < w.heap.size ∧ rowOf w b (o + i * 32) 32 = some (keyC x) := SL.elem keyC_length h hx


@[go_sem] theorem rowsKey_length (l : List Key) : (rows keyC l).length = l.length * 32 := rows_length keyC_length l
@[go_sem] theorem setKeys_prefix (w : World) (ds l : List Key) (t : TypeId) (fr : Nat × Nat) (b : Nat) (hb : b = w.heap.size) (h : l.length ≤ ds.length) :
    (w.alloc (.cells (rows keyC ds).toArray t fr)).setCells b 0 (rows keyC l) = w.alloc (.cells (rows keyC (l ++ ds.drop l.length)).toArray t fr) := setCells_rows_prefix keyC_length w ds l t fr b hb h
@[go_sem] theorem setKey_at (w : World) (ds : List Key) (x : Key) (t : TypeId) (fr : Nat × Nat) (b i : Nat) (hb : b = w.heap.size) (h : i < ds.length) :
    (w.alloc (.cells (rows keyC ds).toArray t fr)).setCells b (i * 32) (keyC x) = w.alloc (.cells (rows keyC (ds.set i x)).toArray t fr) := setCells_rows_elem keyC_length w ds x t fr b _ i hb rfl h
@[go_sem] theorem setKey_0 (w : World) (ds : List Key) (x : Key) (t : TypeId) (fr : Nat × Nat) (b : Nat) (hb : b = w.heap.size) (h : 0 < ds.length) :
    (w.alloc (.cells (rows keyC ds).toArray t fr)).setCells b 0 (keyC x) = w.alloc (.cells (rows keyC (ds.set 0 x)).toArray t fr) := setCells_rows_elem keyC_length w ds x t fr b 0 0 hb (by simp) h
theorem isRow_keys (l : List Key) : isRow (l.length * 32) (rows keyC l) = true := rows_row keyC_row l
attribute [go_sem] isRow_keys

@[go_sem] theorem eql_keys_nil (w : World) (a : Option Addr) (n c : Nat) : (binOp .eql 39 (.slice a n c) (.slice none 0 0)).run Try.prog w = .ok (.bool a.isNone) w := Lib.run_eql_slice_nil w _ _ a n c 0 0 Try.underlying39

end Go.Proofs.Ytahkiabpjfcfdaa

namespace Go.Proofs.Ytahkiabpjfcfdaa
set_option maxRecDepth 100000
open Go.RowKit
set_option linter.unusedVariables false
set_option linter.unusedSimpArgs false

/-- Keys that are nothing but a first byte, or two. -/
def key1 (a : UInt8) : Key := ⟨a :: List.replicate 31 0, by simp⟩
theorem key1_cells (a : UInt8) : (keyC (key1 a)).toArray = (Value.int .u8 a.toNat :: List.replicate 31 (.int .u8 0)).toArray := by unfold keyC key1; rfl

theorem run_build1 (n : Int) (w : World) : (Instr.build 38 #[(0, .int .u8 n)]).run Try.prog w = .ok (.agg (Value.int .u8 n :: List.replicate 31 (.int .u8 0)).toArray) w := by kernel_rfl

def slowBuild1 (P : Program) (t : TypeId) (u : Value) (w : World) : Result Next := (do pure (.value (← Instr.build t #[(0, u)])) : Sem Next).run P w
def build1To (P : Program) (t : TypeId) (w : World) (u : Value) : Result Next :=
  match u with
  | .int .u8 (.ofNat n) => if n < 256 then .ok (.value (.agg (keyC (key1 (UInt8.ofNat n))).toArray)) w else slowBuild1 P t u w
  | u => slowBuild1 P t u w
@[go_sem] theorem build1To_lit (P : Program) (t : TypeId) (w : World) (n : Nat) (h : n < 256) : build1To P t w (.int .u8 n) = .ok (.value (.agg (keyC (key1 (UInt8.ofNat n))).toArray)) w := by
  show (if n < 256 then _ else _) = _
  rw [if_pos h]
@[go_sem] theorem build1To_2 (P : Program) (t : TypeId) (w : World) : build1To P t w (.int .u8 2) = .ok (.value (.agg (keyC (key1 2)).toArray)) w := build1To_lit P t w 2 (by omega)
@[go_sem] theorem build1To_7 (P : Program) (t : TypeId) (w : World) : build1To P t w (.int .u8 7) = .ok (.value (.agg (keyC (key1 7)).toArray)) w := build1To_lit P t w 7 (by omega)
@[go_sem] theorem build1To_9 (P : Program) (t : TypeId) (w : World) : build1To P t w (.int .u8 9) = .ok (.value (.agg (keyC (key1 9)).toArray)) w := build1To_lit P t w 9 (by omega)
@[go_sem] theorem build1To_77 (P : Program) (t : TypeId) (w : World) : build1To P t w (.int .u8 77) = .ok (.value (.agg (keyC (key1 77)).toArray)) w := build1To_lit P t w 77 (by omega)
@[go_sem] theorem build1To_1 (P : Program) (t : TypeId) (w : World) : build1To P t w (.int .u8 1) = .ok (.value (.agg (keyC (key1 1)).toArray)) w := build1To_lit P t w 1 (by omega)
theorem build1_key (ρ : Operand → Value) (dst : Option Tmp) (x : Operand) (t : TypeId) (pos : String) (after : Array Edge) (guard : Option (Nat × Bool)) (w : World) :
    (execOp ρ ⟨dst, .build 38 #[(0, x)], t, pos, after, guard⟩).run Try.prog w = build1To Try.prog 38 w (ρ x) := by
  have hslow : (execOp ρ ⟨dst, .build 38 #[(0, x)], t, pos, after, guard⟩).run Try.prog w = slowBuild1 Try.prog 38 (ρ x) w := by simp [execOp, slowBuild1]
  unfold build1To
  split
  · rename_i n hv
    split
    · rename_i hn
      rw [hslow, hv, slowBuild1, Sem.run_bind, run_build1, key1_cells, show (UInt8.ofNat n).toNat = n from by simp; omega]
      rfl
    · rw [hslow]
  · rw [hslow]

end Go.Proofs.Ytahkiabpjfcfdaa

namespace Go.Proofs.Ytahkiabpjfcfdaa
set_option maxRecDepth 100000
open Go.RowKit
set_option linter.unusedVariables false
set_option linter.unusedSimpArgs false
attribute [local irreducible] Int.lt Int.le
attribute [local go_sem] sB_append le_length
attribute [local go_sem ↓] load_key store_key alloc_key build0_key eq_key
attribute [local go_sem] rowOf_drew rowOf_alloc_old rowOf_alloc_new canPut_drew canPut_alloc_old canPut_alloc_new setCells_alloc_new

theorem append_u8 (ρ : Operand → Value) (dst : Option Tmp) (x y : Operand) (ty : TypeId) (pos : String) (after : Array Edge) (guard : Option (Nat × Bool)) (w : World) :
    (execOp ρ ⟨dst, .call { callee := .builtin .append, args := #[x, y], argTypes := #[22, 22] }, ty, pos, after, guard⟩).run Try.prog w = appTo Try.prog 22 ty w (ρ x) (ρ y) :=
  exec_append _ ty ρ dst x y pos after guard w
/-- A slice of bytes of the call's own. -/
abbrev OwnB (w : World) (base : Nat) (v : Value) (l : List UInt8) : Prop := OwnV w base 5 v (bC l)
theorem app_u8 {w : World} {base : Nat} {v : Value} {l : List UInt8} {ty : TypeId} (hown : OwnB w base v l) (hbase : base ≤ w.heap.size) (x : UInt8) (u : Value) (hu : u = .int .u8 (x.toNat : Int)) (hlen : l.length + 1 ≤ 2000000) :
    ∃ g c' w', appTo Try.prog 22 ty (w.alloc (.cells #[u] 5)) v (.slice (some ⟨w.heap.size, 0, none⟩) 1 1) = .ok (.value (.slice (some ⟨g, 0, none⟩) (l.length + 1) c')) w' ∧ OwnB w' base (.slice (some ⟨g, 0, none⟩) (l.length + 1) c') (l ++ [x]) ∧ Below base w w' ∧ w.heap.size ≤ w'.heap.size := by
  obtain ⟨i, hi, hs, hb, hz⟩ := info_u8
  subst hu
  obtain ⟨g, c', w', h1, h2, h3, h4⟩ := appTo_val' (ty := ty) Try.underlying22 hi hs hb hz rfl (by omega) hown hbase (.int .u8 (x.toNat : Int)) rfl (by rw [bC_length]; exact hlen)
  rw [bC_length] at h1 h2
  refine ⟨g, c', w', h1, ?_, h3, h4⟩
  have e : bC (l ++ [x]) = bC l ++ [.int .u8 (x.toNat : Int)] := by rw [bC_append]; unfold bC; rfl
  show OwnV _ _ _ _ (bC (l ++ [x]))
  rw [e]
  exact h2
/-- 'string(b)' of a slice of the call's own. -/
theorem run_string_own {w : World} {base g n cap : Nat} {l : List UInt8} (h : OwnB w base (.slice (some ⟨g, 0, none⟩) n cap) l) : (convert 22 9 (.slice (some ⟨g, 0, none⟩) n cap)).run Try.prog w = .ok (.string (sB l)) w := by
  have hr := h.row
  rw [bC_length] at hr
  obtain ⟨rfl, _⟩ := hr
  refine run_convert_bytes_back w _ _ 5 ⟨g, 0, none⟩ cap l Try.underlying22 Try.underlying5 Try.underlying9 fun j hj => ?_
  have hl : l[j]? = some l[j] := List.getElem?_eq_getElem hj
  rw [Addr.add_mid, Nat.zero_add]
  exact h.cell (bC_get hl)
attribute [local go_sem ↓] append_u8

set_option maxHeartbeats 1000000 in
theorem refPut_any (n : Nat) (w : Int) (W : World) (hn : n < 18446744073709551616) : Calls Try.prog 67 #[.int .u64 n, .int .i64 w] W (Gives (.string (sB (putL n w))) W) := by
  replace hn := Box.mk hn
  go_enter Try.func67, Try.ntmps67
  by_cases h1 : w < 1
  · have hp : putL n w = [] := by unfold putL; rw [if_pos (.inl h1)]
    rw [hp]
    clear hp
    go_wp2
    go_ret
    exact gives rfl (Below.refl _ _)
  · by_cases h8 : 8 < w
    · have hp : putL n w = [] := by unfold putL; rw [if_pos (.inr h8)]
      rw [hp]
      clear hp
      go_wp2
      go_ret
      exact gives rfl (Below.refl _ _)
    · obtain ⟨m, rfl⟩ : ∃ m : Nat, w = m := ⟨w.toNat, by omega⟩
      rw [putL_nat n m (by omega) (by omega)]
      go_wp2_with fail
      have hO : OwnB (W.alloc (.cells #[] 5)) W.heap.size (.slice (some ⟨W.heap.size, 0, none⟩) 0 0) (le 0 n) := by
        have := OwnV.empty W W.heap.size 5 W.heap.size rfl (Nat.le_refl _)
        show OwnV _ _ _ _ (bC [])
        have e : bC [] = [] := by unfold bC; rfl
        rw [e]
        exact this
      have hB : Below W.heap.size W (W.alloc (.cells #[] 5)) := (Below.refl _ _).alloc (Nat.le_refl _) _
      go_loopw [5, 6] (fun v i wr => Below W.heap.size W wr ∧ ∃ j : Nat, j ≤ m ∧ i = .int .i64 j ∧ ∃ g c, v = .slice (some ⟨g, 0, none⟩) j c ∧ OwnB wr W.heap.size (.slice (some ⟨g, 0, none⟩) j c) (le j n)) (fun _ i _ => m - (intOf i).toNat)
      case atStart => exact ⟨hB, 0, Nat.zero_le _, rfl, _, _, rfl, hO⟩
      case round =>
        obtain ⟨hbr, j, hj, rfl, g, c, rfl, hown⟩ := hrel
        have hsz := hbr.size
        by_cases hlt : j < m
        · have hlt' : (j : Int) < (m : Int) := by omega
          go_wp2_with fail
          obtain ⟨g', c', w', hap, hown', hb', hs'⟩ := app_u8 (ty := 22) hown hsz (UInt8.ofNat (n / 256 ^ j)) (.int .u8 ((n : Int) / 2 ^ (8 * j) % 256)) (by rw [shr_byte]) (by rw [le_length]; omega)
          rw [le_length] at hap hown'
          rw [← le_succ] at hown'
          rw [hap]
          go_wp2
          go_roundw
          case rel => exact ⟨hbr.trans hb', j + 1, by omega, by go_num, g', c', rfl, hown'⟩
          case measure => simp [intOf]; omega
        · obtain rfl : j = m := by omega
          go_wp2_with fail
          rw [run_string_own hown]
          go_wp2
          go_ret
          exact gives rfl hbr

theorem unle_append : ∀ (a b : List UInt8), unle (a ++ b) = unle a + 256 ^ a.length * unle b
  | [], b => by simp [unle]
  | x :: a, b => by
    rw [List.cons_append, unle, unle, unle_append a b, List.length_cons, Nat.pow_succ, Nat.mul_add, ← Nat.mul_assoc, Nat.mul_comm 256 (256 ^ a.length)]
    omega
theorem unle_take_succ {l : List UInt8} {i : Nat} (h : i < l.length) : unle (l.take (i + 1)) = unle (l.take i) + 256 ^ i * l[i].toNat := by
  rw [List.take_add_one, List.getElem?_eq_getElem h, unle_append, List.length_take, Nat.min_eq_left (by omega)]
  simp [unle]
theorem wrap_u64 (y : Nat) (h : y < 2 ^ 64) : IntKind.u64.wrap (y : Int) = (y : Int) := by
  simp only [IntKind.wrap, IntKind.bits, IntKind.signed]
  simp
  omega
theorem or_high (x b i : Nat) (hb : b < 256) (hi : i ≤ 7) (hx : x < 256 ^ i) : bits .or .u64 (x : Int) (IntKind.u64.wrap (IntKind.u64.wrap (b : Int) * 2 ^ (8 * i))) = ((x + 256 ^ i * b : Nat) : Int) := by
  have h2 : IntKind.u64.wrap (b : Int) = ((b : Nat) : Int) := by
    simp [IntKind.wrap, IntKind.bits, IntKind.signed]; omega
  have hp : 256 ^ i ≤ 256 ^ 7 := Nat.pow_le_pow_right (by omega) hi
  have hm : b * 256 ^ i < 2 ^ 64 := Nat.lt_of_le_of_lt (Nat.mul_le_mul (by omega : b ≤ 255) hp) (by decide)
  have hx2 : x < 2 ^ 64 := by omega
  have h1 : IntKind.u64.wrap ((b : Int) * 2 ^ (8 * i)) = ((b * 256 ^ i : Nat) : Int) := by
    have e : (b : Int) * 2 ^ (8 * i) = ((b * 256 ^ i : Nat) : Int) := by rw [← pow_two_256]; simp
    rw [e, wrap_u64 _ hm]
  rw [h2, h1]
  have h0 : ∀ A B : Int, bits .or .u64 A B = IntKind.u64.wrap (((BitVec.ofInt 64 A) ||| (BitVec.ofInt 64 B)).toNat : Int) := fun _ _ => rfl
  rw [h0, BitVec.ofInt_natCast, BitVec.ofInt_natCast, BitVec.toNat_or, BitVec.toNat_ofNat, BitVec.toNat_ofNat, Nat.mod_eq_of_lt hx2, Nat.mod_eq_of_lt hm]
  have h3 := Nat.shiftLeft_add_eq_or_of_lt (i := 8 * i) (b := x) (by rw [pow_two_256]; exact hx) b
  rw [Nat.shiftLeft_eq, pow_two_256] at h3
  rw [Nat.or_comm, ← h3]
  have hs : b * 256 ^ i + x < 2 ^ 64 := by
    have h4 : (b + 1) * 256 ^ i ≤ 256 * 256 ^ 7 := Nat.mul_le_mul (by omega) hp
    rw [Nat.add_mul, Nat.one_mul] at h4
    have : 256 * 256 ^ 7 = 2 ^ 64 := by decide
    omega
  rw [Nat.mul_comm (256 ^ i) b, Nat.add_comm x]
  exact wrap_u64 _ hs

set_option maxHeartbeats 1000000 in
theorem refGet_any (s : List UInt8) (w : Int) (W : World) : Calls Try.prog 62 #[.string (sB s), .int .i64 w] W (Gives (val3 (getV s w)) W) := by
  have hsz := sB_size s
  go_enter Try.func62, Try.ntmps62
  by_cases h1 : w < 1
  · have hp : getV s w = (0, [], 1) := by unfold getV; rw [if_pos (.inl h1)]
    rw [hp]
    clear hp
    go_wp2
    refine bodyPost_ret (v := val3 (0, [], 1)) (by simp [results, Try.results62, go_sem, val3]; try rfl) rfl ?_
    exact gives rfl (Below.refl _ _)
  · by_cases h8 : 8 < w
    · have hp : getV s w = (0, [], 1) := by unfold getV; rw [if_pos (.inr h8)]
      rw [hp]
      clear hp
      go_wp2
      refine bodyPost_ret (v := val3 (0, [], 1)) (by simp [results, Try.results62, go_sem, val3]; try rfl) rfl ?_
      exact gives rfl (Below.refl _ _)
    · obtain ⟨m, rfl⟩ : ∃ m : Nat, w = m := ⟨w.toNat, by omega⟩
      by_cases hl : (s.length : Int) < m
      · have hp : getV s m = (0, [], 30) := by unfold getV; rw [if_neg (by omega), if_pos hl]
        rw [hp]
        clear hp
        go_wp2
        refine bodyPost_ret (v := val3 (0, [], 30)) (by simp [results, Try.results62, go_sem, val3]; try rfl) rfl ?_
        exact gives rfl (Below.refl _ _)
      · have hp : getV s m = (unle (s.take m), s.drop m, 0) := by unfold getV; rw [if_neg (by omega), if_neg hl]; rfl
        rw [hp]
        clear hp
        go_wp2_with fail
        go_loopw [7, 8] (fun v i wr => wr = W ∧ ∃ j : Nat, j ≤ m ∧ i = .int .i64 j ∧ v = .int .u64 (unle (s.take j))) (fun _ i _ => m - (intOf i).toNat)
        case atStart => exact ⟨rfl, 0, Nat.zero_le _, rfl, rfl⟩
        case round =>
          obtain ⟨rfl, j, hj, rfl, rfl⟩ := hrel
          by_cases hlt : j < m
          · have hlt' : (j : Int) < (m : Int) := by omega
            go_wp2_with fail
            have hjl : j < s.length := by omega
            have hlt2 := unle_lt (s.take j)
            rw [List.length_take, Nat.min_eq_left (by omega)] at hlt2
            refine ⟨⟨trivial, j + 1, by omega, by go_num, ?_⟩, by simp [intOf]; omega⟩
            rw [unle_take_succ hjl, sB_get hjl, or_high _ _ j s[j].toNat_lt (by omega) hlt2]
          · obtain rfl : j = m := by omega
            go_wp2_with fail
            (refine region_since (by kernel_rfl) (by kernel_rfl) ?_)
            repeat (first
              | (refine wpQuiet_goff rfl rfl rfl rfl ?_; simp only [Act.put, List.setIfInBounds_toArray, List.set_cons_succ, List.set_cons_zero])
              | (first
                   | refine wpQuiet_free rfl ?_
                   | refine wpQuiet_gon rfl rfl rfl rfl ?_
                 apply Exists.intro
                 refine ⟨fun w' hw' => ?_, ?_⟩
                 · (obtain ⟨hc', hr', hs'⟩ := since_facts hw'
                    unfold Oper.quietAt
                    go_simp
                    try go_bits
                    first
                      | exact quietUpon_value rfl
                      | exact rfl
                      | (apply quietUpon_enter
                         first
                         | fail))
                 simp only [Act.put, List.setIfInBounds_toArray, List.set_cons_succ, List.set_cons_zero]))
            first
              | refine wpQuiet_nil ?_
              | fail "QUIET stopped"
            intro wq hwq'
            go_wp2
            refine bodyPost_ret (v := val3 (unle (s.take j), s.drop j, 0)) (by simp [results, Try.results62, go_sem, val3, sB_extract]) rfl ?_
            exact gives rfl hwq'

end Go.Proofs.Ytahkiabpjfcfdaa

namespace Go.Proofs.Ytahkiabpjfcfdaa
set_option maxRecDepth 100000
open Go.RowKit
set_option linter.unusedVariables false
set_option linter.unusedSimpArgs false
attribute [local irreducible] Int.lt Int.le
attribute [local go_sem] sB_append le_length
attribute [local go_sem ↓] load_key store_key alloc_key build0_key eq_key append_u8
attribute [local go_sem] rowOf_drew rowOf_alloc_old rowOf_alloc_new canPut_drew canPut_alloc_old canPut_alloc_new setCells_alloc_new

set_option maxRecDepth 100000 in
theorem refCompact_any (n : Nat) (W : World) (hn : n < 18446744073709551616) : Calls Try.prog 68 #[.int .u64 n] W (Gives (.string (sB (compactL n))) W) := by
  replace hn := Box.mk hn
  go_enter Try.func68, Try.ntmps68
  by_cases h1 : n < 253
  · have hp : compactL n = le 1 n := by unfold compactL; rw [if_pos h1]
    rw [hp]
    clear hp
    have g1 : (n : Int) < 253 := by omega
    clear h1
    go_wp2_with fail
    refine (refPut_any n ((1 : Nat) : Int) _ hn.out).mono ?_
    rintro e w1 ⟨rfl, hb⟩
    rw [putL_nat n 1 (by omega) (by omega)]
    go_wp2
    go_ret
    exact gives rfl hb
  · by_cases h2 : n < 65536
    · have hp : compactL n = 253 :: le 2 n := by unfold compactL; rw [if_neg h1, if_pos h2]
      rw [hp]
      clear hp
      have g1 : ¬ (n : Int) < 253 := by omega
      have g2 : (n : Int) ≤ 65535 := by omega
      clear h1 h2
      go_wp2_with fail
      refine (refPut_any n ((2 : Nat) : Int) _ hn.out).mono ?_
      rintro e w1 ⟨rfl, hb⟩
      rw [putL_nat n 2 (by omega) (by omega)]
      have hr := le_length 2 n
      generalize le 2 n = r at *
      go_wp2
      go_ret
      exact gives rfl hb
    · by_cases h3 : n < 4294967296
      · have hp : compactL n = 254 :: le 4 n := by unfold compactL; rw [if_neg h1, if_neg h2, if_pos h3]
        rw [hp]
        clear hp
        have g1 : ¬ (n : Int) < 253 := by omega
        have g2 : ¬ (n : Int) ≤ 65535 := by omega
        have g3 : (n : Int) ≤ 4294967295 := by omega
        clear h1 h2 h3
        go_wp2_with fail
        refine (refPut_any n ((4 : Nat) : Int) _ hn.out).mono ?_
        rintro e w1 ⟨rfl, hb⟩
        rw [putL_nat n 4 (by omega) (by omega)]
        have hr := le_length 4 n
        generalize le 4 n = r at *
        go_wp2
        go_ret
        exact gives rfl hb
      · have hp : compactL n = 255 :: le 8 n := by unfold compactL; rw [if_neg h1, if_neg h2, if_neg h3]
        rw [hp]
        clear hp
        have g1 : ¬ (n : Int) < 253 := by omega
        have g2 : ¬ (n : Int) ≤ 65535 := by omega
        have g3 : ¬ (n : Int) ≤ 4294967295 := by omega
        clear h1 h2 h3
        go_wp2_with fail
        refine (refPut_any n ((8 : Nat) : Int) _ hn.out).mono ?_
        rintro e w1 ⟨rfl, hb⟩
        rw [putL_nat n 8 (by omega) (by omega)]
        have hr := le_length 8 n
        generalize le 8 n = r at *
        go_wp2
        go_ret
        exact gives rfl hb

set_option maxHeartbeats 2000000 in
set_option maxRecDepth 100000 in
theorem refRead_any (s : List UInt8) (W : World) (hs : s.length ≤ 1000000000) : Calls Try.prog 63 #[.string (sB s)] W (Gives (val3 (readV s)) W) := by
  cases s with
  | nil =>
    rw [show readV [] = (0, [], 30) from rfl]
    go_enter Try.func63, Try.ntmps63
    go_wp2
    refine bodyPost_ret (v := val3 (0, [], 30)) (by simp [results, Try.results63, go_sem, val3]; try rfl) rfl ?_
    exact gives rfl (Below.refl _ _)
  | cons b l =>
    have hsz := sB_size (b :: l)
    have hb : b.toNat < 256 := b.toNat_lt
    simp only [List.length_cons] at hs hsz
    have g5 : (0 : Int) < (l.length : Int) + 1 := by omega
    have g6 : ((l.length : Int) + 1 == 0) = false := by simp; omega
    go_enter Try.func63, Try.ntmps63
    by_cases hlow : b.toNat < 253
    · rw [readV_low hlow]
      have g1 : ((b.toNat : Int) == 255) = false := by simp; omega
      have g2 : ((b.toNat : Int) == 254) = false := by simp; omega
      have g3 : ((b.toNat : Int) == 253) = false := by simp; omega
      have g4 : (1 : Int) ≤ (l.length : Int) + 1 := by omega
      go_wp2_with fail
      (refine region_since (by kernel_rfl) (by kernel_rfl) ?_)
      repeat (first
        | (refine wpQuiet_goff rfl rfl rfl rfl ?_; simp only [Act.put, List.setIfInBounds_toArray, List.set_cons_succ, List.set_cons_zero])
        | (first
             | refine wpQuiet_free rfl ?_
             | refine wpQuiet_gon rfl rfl rfl rfl ?_
           apply Exists.intro
           refine ⟨fun w' hw' => ?_, ?_⟩
           · (obtain ⟨hc', hr', hs'⟩ := since_facts hw'
              unfold Oper.quietAt
              go_simp
              try go_bits
              first
                | exact quietUpon_value rfl
                | exact rfl
                | (apply quietUpon_enter
                   first
                   | fail))
           simp only [Act.put, List.setIfInBounds_toArray, List.set_cons_succ, List.set_cons_zero]))
      first
        | refine wpQuiet_nil ?_
        | fail "QUIET stopped"
      intro wq hwq'
      go_wp2
      refine bodyPost_ret (v := val3 (b.toNat, l, 0)) (by simp [results, Try.results63, go_sem, val3]) rfl ?_
      exact gives rfl hwq'
    · rcases byte_high hlow with rfl | rfl | rfl
      · have hlit : (253 : UInt8).toNat = 253 := rfl
        go_wp2_with fail
        refine (refGet_any l 2 _).mono ?_
        rintro e w1 ⟨rfl, hb1⟩
        by_cases hl : l.length < 2
        · have hR := Box.mk (readV_short hlow hl)
          rw [show ((2 : Int)) = ((2 : Nat) : Int) from rfl, getV_short (by omega) (by omega) hl]
          simp only [val3]
          go_wp2
          refine bodyPost_ret (v := val3 (0, [], 30)) (by simp [results, Try.results63, go_sem, val3]; try rfl) rfl ?_
          exact gives (by rw [hR.out]) hb1
        · rw [show ((2 : Int)) = ((2 : Nat) : Int) from rfl, getV_well (by omega) (by omega) hl]
          have hlt := unle_lt (l.take 2)
          rw [List.length_take, Nat.min_eq_left (by omega)] at hlt
          have hcl := compactL_length (unle (l.take 2))
          by_cases hlo : unle (l.take 2) < 253
          · have hR := Box.mk (readV_long hlow hl hlo)
            have hne : ((compactL (unle (l.take 2))).length : Int) ≤ 2 := by (repeat' split at hcl) <;> omega
            obtain ⟨n, hn⟩ : ∃ n, n = unle (l.take 2) := ⟨_, rfl⟩
            rw [← hn] at hlo hne hlt ⊢
            have hn64 : n < 18446744073709551616 := by omega
            have hnb := Box.mk hn64
            clear hlo hlt hn64 hcl
            replace hn := Box.mk hn
            simp only [val3]
            go_wp2_with fail
            refine (refCompact_any n _ hnb.out).mono ?_
            rintro e w2 ⟨rfl, hb2⟩
            have hq : (((compactL n).length : Int) == 2 + 1) = false := by simp; omega
            go_wp2
            refine bodyPost_ret (v := val3 (0, [], 31)) (by simp [results, Try.results63, go_sem, val3]; try rfl) rfl ?_
            exact gives (by rw [hR.out]) (since_next hb1 hb2)
          · have hR := Box.mk (readV_well hlow hl hlo)
            have hne : ((compactL (unle (l.take 2))).length : Int) = 2 + 1 := by (repeat' split at hcl) <;> omega
            obtain ⟨n, hn⟩ : ∃ n, n = unle (l.take 2) := ⟨_, rfl⟩
            rw [← hn] at hlo hne hlt ⊢
            have hn64 : n < 18446744073709551616 := by omega
            have hnb := Box.mk hn64
            clear hlo hlt hn64 hcl
            replace hn := Box.mk hn
            simp only [val3]
            go_wp2_with fail
            refine (refCompact_any n _ hnb.out).mono ?_
            rintro e w2 ⟨rfl, hb2⟩
            go_wp2
            refine bodyPost_ret (v := val3 (n, l.drop 2, 0)) (by simp [results, Try.results63, go_sem, val3]; try rfl) rfl ?_
            exact gives (by rw [hR.out, hn.out]; rfl) (since_next hb1 hb2)
      · have hlit : (254 : UInt8).toNat = 254 := rfl
        go_wp2_with fail
        refine (refGet_any l 4 _).mono ?_
        rintro e w1 ⟨rfl, hb1⟩
        by_cases hl : l.length < 4
        · have hR := Box.mk (readV_short hlow hl)
          rw [show ((4 : Int)) = ((4 : Nat) : Int) from rfl, getV_short (by omega) (by omega) hl]
          simp only [val3]
          go_wp2
          refine bodyPost_ret (v := val3 (0, [], 30)) (by simp [results, Try.results63, go_sem, val3]; try rfl) rfl ?_
          exact gives (by rw [hR.out]) hb1
        · rw [show ((4 : Int)) = ((4 : Nat) : Int) from rfl, getV_well (by omega) (by omega) hl]
          have hlt := unle_lt (l.take 4)
          rw [List.length_take, Nat.min_eq_left (by omega)] at hlt
          have hcl := compactL_length (unle (l.take 4))
          by_cases hlo : unle (l.take 4) < 65536
          · have hR := Box.mk (readV_long hlow hl hlo)
            have hne : ((compactL (unle (l.take 4))).length : Int) ≤ 4 := by (repeat' split at hcl) <;> omega
            obtain ⟨n, hn⟩ : ∃ n, n = unle (l.take 4) := ⟨_, rfl⟩
            rw [← hn] at hlo hne hlt ⊢
            have hn64 : n < 18446744073709551616 := by omega
            have hnb := Box.mk hn64
            clear hlo hlt hn64 hcl
            replace hn := Box.mk hn
            simp only [val3]
            go_wp2_with fail
            refine (refCompact_any n _ hnb.out).mono ?_
            rintro e w2 ⟨rfl, hb2⟩
            have hq : (((compactL n).length : Int) == 4 + 1) = false := by simp; omega
            go_wp2
            refine bodyPost_ret (v := val3 (0, [], 31)) (by simp [results, Try.results63, go_sem, val3]; try rfl) rfl ?_
            exact gives (by rw [hR.out]) (since_next hb1 hb2)
          · have hR := Box.mk (readV_well hlow hl hlo)
            have hne : ((compactL (unle (l.take 4))).length : Int) = 4 + 1 := by (repeat' split at hcl) <;> omega
            obtain ⟨n, hn⟩ : ∃ n, n = unle (l.take 4) := ⟨_, rfl⟩
            rw [← hn] at hlo hne hlt ⊢
            have hn64 : n < 18446744073709551616 := by omega
            have hnb := Box.mk hn64
            clear hlo hlt hn64 hcl
            replace hn := Box.mk hn
            simp only [val3]
            go_wp2_with fail
            refine (refCompact_any n _ hnb.out).mono ?_
            rintro e w2 ⟨rfl, hb2⟩
            go_wp2
            refine bodyPost_ret (v := val3 (n, l.drop 4, 0)) (by simp [results, Try.results63, go_sem, val3]; try rfl) rfl ?_
            exact gives (by rw [hR.out, hn.out]; rfl) (since_next hb1 hb2)
      · have hlit : (255 : UInt8).toNat = 255 := rfl
        go_wp2_with fail
        refine (refGet_any l 8 _).mono ?_
        rintro e w1 ⟨rfl, hb1⟩
        by_cases hl : l.length < 8
        · have hR := Box.mk (readV_short hlow hl)
          rw [show ((8 : Int)) = ((8 : Nat) : Int) from rfl, getV_short (by omega) (by omega) hl]
          simp only [val3]
          go_wp2
          refine bodyPost_ret (v := val3 (0, [], 30)) (by simp [results, Try.results63, go_sem, val3]; try rfl) rfl ?_
          exact gives (by rw [hR.out]) hb1
        · rw [show ((8 : Int)) = ((8 : Nat) : Int) from rfl, getV_well (by omega) (by omega) hl]
          have hlt := unle_lt (l.take 8)
          rw [List.length_take, Nat.min_eq_left (by omega)] at hlt
          have hcl := compactL_length (unle (l.take 8))
          by_cases hlo : unle (l.take 8) < 4294967296
          · have hR := Box.mk (readV_long hlow hl hlo)
            have hne : ((compactL (unle (l.take 8))).length : Int) ≤ 8 := by (repeat' split at hcl) <;> omega
            obtain ⟨n, hn⟩ : ∃ n, n = unle (l.take 8) := ⟨_, rfl⟩
            rw [← hn] at hlo hne hlt ⊢
            have hn64 : n < 18446744073709551616 := by omega
            have hnb := Box.mk hn64
            clear hlo hlt hn64 hcl
            replace hn := Box.mk hn
            simp only [val3]
            go_wp2_with fail
            refine (refCompact_any n _ hnb.out).mono ?_
            rintro e w2 ⟨rfl, hb2⟩
            have hq : (((compactL n).length : Int) == 8 + 1) = false := by simp; omega
            go_wp2
            refine bodyPost_ret (v := val3 (0, [], 31)) (by simp [results, Try.results63, go_sem, val3]; try rfl) rfl ?_
            exact gives (by rw [hR.out]) (since_next hb1 hb2)
          · have hR := Box.mk (readV_well hlow hl hlo)
            have hne : ((compactL (unle (l.take 8))).length : Int) = 8 + 1 := by (repeat' split at hcl) <;> omega
            obtain ⟨n, hn⟩ : ∃ n, n = unle (l.take 8) := ⟨_, rfl⟩
            rw [← hn] at hlo hne hlt ⊢
            have hn64 : n < 18446744073709551616 := by omega
            have hnb := Box.mk hn64
            clear hlo hlt hn64 hcl
            replace hn := Box.mk hn
            simp only [val3]
            go_wp2_with fail
            refine (refCompact_any n _ hnb.out).mono ?_
            rintro e w2 ⟨rfl, hb2⟩
            go_wp2
            refine bodyPost_ret (v := val3 (n, l.drop 8, 0)) (by simp [results, Try.results63, go_sem, val3]; try rfl) rfl ?_
            exact gives (by rw [hR.out, hn.out]; rfl) (since_next hb1 hb2)

end Go.Proofs.Ytahkiabpjfcfdaa

namespace Go.Proofs.Ytahkiabpjfcfdaa
set_option maxRecDepth 100000
open Go.RowKit
set_option linter.unusedVariables false
set_option linter.unusedSimpArgs false
attribute [local irreducible] Int.lt Int.le
attribute [local go_sem] sB_append le_length
attribute [local go_sem ↓] load_key store_key alloc_key build0_key eq_key append_u8
attribute [local go_sem] rowOf_drew rowOf_alloc_old rowOf_alloc_new canPut_drew canPut_alloc_old canPut_alloc_new setCells_alloc_new

theorem bC_nil : bC [] = [] := by unfold bC; rfl

set_option maxHeartbeats 1000000 in
theorem refBytes_any (k : Key) (W : World) : Calls Try.prog 66 #[.agg (keyC k).toArray] W (Gives (.string (sB k.val)) W) := by
  go_enter Try.func66, Try.ntmps66
  go_wp2_with fail
  have hB0 : Below W.heap.size W (W.alloc (.cells (keyC k).toArray 38)) := (Below.refl _ _).alloc (Nat.le_refl _) _
  have hr0 : rowOf (W.alloc (.cells (keyC k).toArray 38)) W.heap.size 0 32 = some (keyC k) := rowOf_alloc_new _ _ _ _ _ _ rfl (keyC_length k)
  obtain ⟨w1, hw1⟩ : ∃ w1, w1 = W.alloc (.cells (keyC k).toArray 38) := ⟨_, rfl⟩
  have hsz1 : w1.heap.size = W.heap.size + 1 := by rw [hw1]; simp
  rw [← hw1] at hB0 hr0 ⊢
  replace hw1 := Box.mk hw1
  have hO : OwnB (w1.alloc (.cells #[] 5)) (W.heap.size + 1) (.slice (some ⟨W.heap.size + 1, 0, none⟩) 0 0) (k.val.take 0) := by
    show OwnV _ _ _ _ (bC [])
    rw [bC_nil]
    exact OwnV.empty w1 (W.heap.size + 1) 5 (W.heap.size + 1) hsz1.symm (Nat.le_refl _)
  have hB1 : Below (W.heap.size + 1) w1 (w1.alloc (.cells #[] 5)) := (Below.refl _ _).alloc (by omega) _
  go_loopw [3, 4] (fun v i wr => Below (W.heap.size + 1) w1 wr ∧ ∃ j : Nat, j ≤ 32 ∧ i = .int .i64 j ∧ ∃ g c, v = .slice (some ⟨g, 0, none⟩) j c ∧ OwnB wr (W.heap.size + 1) (.slice (some ⟨g, 0, none⟩) j c) (k.val.take j)) (fun _ i _ => 32 - (intOf i).toNat)
  case atStart => exact ⟨hB1, 0, by omega, rfl, _, _, rfl, hO⟩
  case round =>
    obtain ⟨hbr, j, hj, rfl, g, c, rfl, hown⟩ := hrel
    have hsz := hbr.size
    have hk := k.2
    by_cases hlt : j < 32
    · have hlt' : (j : Int) < 32 := by omega
      have hx : k.val[j]? = some (k.val[j]'(by omega)) := List.getElem?_eq_getElem (by omega)
      have hcell : wr.cell? ⟨W.heap.size, j, none⟩ = some (.int .u8 ((k.val[j]'(by omega)).toNat : Int)) := by
        rw [hbr.cell (p := ⟨W.heap.size, j, none⟩) (Nat.lt_succ_self _)]
        have := (rowOf_some.1 hr0).2 j _ (by rw [keyC_bC]; exact bC_get hx)
        rwa [Nat.zero_add] at this
      have hs : k.val.take (j + 1) = k.val.take j ++ [k.val[j]'(by omega)] := by rw [List.take_add_one, hx]; rfl
      generalize k.val[j]'(by omega) = x at *
      clear hx
      go_wp2_with fail
      obtain ⟨g', c', w', hap, hown', hb', hs'⟩ := app_u8 (ty := 22) hown (by omega) x _ rfl (by rw [List.length_take]; omega)
      rw [List.length_take, Nat.min_eq_left (by omega)] at hap hown'
      rw [← hs] at hown'
      rw [hap]
      go_wp2
      go_roundw
      case rel => exact ⟨hbr.trans hb', j + 1, by omega, by go_num, g', c', rfl, hown'⟩
      case measure => simp [intOf]; omega
    · obtain rfl : j = 32 := by omega
      go_wp2_with fail
      rw [run_string_own hown, List.take_of_length_le (by omega)]
      go_wp2
      go_ret
      exact gives rfl (hB0.trans (hbr.mono (Nat.le_succ _)))

/-- The key in the midst of the loop. -/
def midK (s : List UInt8) (j : Nat) : List UInt8 := s.take j ++ List.replicate (32 - j) 0
theorem midK_length {s : List UInt8} {j : Nat} (h : 32 ≤ s.length) (hj : j ≤ 32) : (midK s j).length = 32 := by unfold midK; rw [List.length_append, List.length_take, List.length_replicate]; omega
theorem midK_set {s : List UInt8} {j : Nat} (h : 32 ≤ s.length) (hj : j < 32) : (midK s j).set j (s[j]'(by omega)) = midK s (j + 1) := by
  unfold midK
  rw [List.set_append_right _ _ (by rw [List.length_take]; omega), List.length_take, Nat.min_eq_left (by omega), Nat.sub_self, show 32 - j = (32 - (j + 1)) + 1 from by omega, List.replicate_succ, List.set_cons_zero, List.take_add_one, List.getElem?_eq_getElem (by omega), List.append_assoc]
  rfl

set_option maxHeartbeats 1000000 in
theorem refKey_any (s : List UInt8) (W : World) (hs : s.length ≤ 1000000000) : Calls Try.prog 61 #[.string (sB s)] W (Gives (valK (keyV s)) W) := by
  have hsz := sB_size s
  go_enter Try.func61, Try.ntmps61
  by_cases h32 : (s.length : Int) < 32
  · have hV : keyV s = (zeroKey, [], 30) := by unfold keyV; rw [dif_neg (by omega)]
    rw [hV]
    clear hV
    go_wp2
    obtain ⟨w2, hw2⟩ : ∃ w2, w2 = (W.alloc (.cells (keyC zeroKey).toArray 38)).alloc (.cells (keyC zeroKey).toArray 38) := ⟨_, rfl⟩
    have hp2 : canPut w2 W.heap.size 0 32 = true := by rw [hw2, canPut_alloc_old _ _ _ _ _ (by simp)]; simp [go_sem]
    have hb2 : Below W.heap.size W w2 := by rw [hw2]; exact ((Below.refl _ _).alloc (Nat.le_refl _) _).alloc (by simp) _
    have hrow := rowOf_of_rangeAt (World.rangeAt_setCells_same w2 W.heap.size 0 (keyC zeroKey) (by rw [keyC_length]; exact canPut_there.1 hp2)) (keyC_length zeroKey)
    rw [← hw2]
    refine bodyPost_ret (v := valK (zeroKey, [], 30)) (res3 Try.results61 (res_key (b := W.heap.size) (o := 0) (by simp [go_sem]) hrow) (v2 := .string (sB [])) (by simp [oneRes]; try rfl) (by simp [oneRes]; try rfl)) rfl ?_
    exact gives rfl (below_setCells (Nat.le_refl _) _ _ _ _ hb2)
  · have h32' : 32 ≤ s.length := by omega
    have hV : keyV s = (keyOf s h32', s.drop 32, 0) := by unfold keyV; rw [dif_pos h32']
    rw [hV]
    clear hV
    obtain ⟨k, hk⟩ : ∃ k, k = keyOf s h32' := ⟨_, rfl⟩
    rw [← hk]
    have hkv : bC (midK s 32) = keyC k := by
      rw [keyC_bC, hk]
      show bC (midK s 32) = bC (s.take 32)
      unfold midK
      simp
    replace hk := Box.mk hk
    replace hkv := Box.mk hkv
    have hx2 : (sB s).extract 32 s.length = sB (s.drop 32) := by rw [sB_extract, List.take_length]
    generalize s.drop 32 = r at *
    have e0 : keyC zeroKey = bC (midK s 0) := by rw [keyC_bC]; rfl
    replace e0 := Box.mk e0
    go_wp2_with fail
    obtain ⟨A, hA⟩ : ∃ A, A = W.alloc (.cells (keyC zeroKey).toArray 38) := ⟨_, rfl⟩
    have hszA : A.heap.size = W.heap.size + 1 := by rw [hA]; simp
    have hbA : Below W.heap.size W A := by rw [hA]; exact (Below.refl _ _).alloc (Nat.le_refl _) _
    have hpA : canPut A W.heap.size 0 32 = true := by rw [hA]; simp [go_sem]
    rw [← hA, ← hszA]
    replace hA := Box.mk hA
    replace hszA := Box.mk hszA
    rw [e0.out]
    go_loopw [6] (fun i wr => ∃ j : Nat, j ≤ 32 ∧ i = .int .i64 j ∧ wr = A.alloc (.cells (bC (midK s j)).toArray 38)) (fun i _ => 32 - (intOf i).toNat)
    case atStart => exact ⟨0, by omega, rfl, rfl⟩
    case round =>
      obtain ⟨j, hj, rfl, rfl⟩ := hrel
      by_cases hlt : j < 32
      · have hlt' : (j : Int) < 32 := by omega
        have hx := midK_length h32' hj
        have hjs : j < s.length := by omega
        go_wp2_with fail
        refine ⟨⟨j + 1, by omega, by go_num, ?_⟩, by simp [intOf]; omega⟩
        rw [sB_get hjs, bC_set, midK_set h32' hlt]
      · obtain rfl : j = 32 := by omega
        rw [hkv.out]
        have hlt0 : W.heap.size < A.heap.size := by have := hszA.out; omega
        go_wp2_with fail
        have hr8 : rowOf (A.alloc (.cells (keyC k).toArray 38)) A.heap.size 0 32 = some (keyC k) := rowOf_alloc_new _ _ _ _ _ _ rfl (keyC_length k)
        have hb8 : Below W.heap.size W (A.alloc (.cells (keyC k).toArray 38)) := hbA.alloc (by omega) _
        have hp8 : canPut (A.alloc (.cells (keyC k).toArray 38)) W.heap.size 0 32 = true := by rw [canPut_alloc_old _ _ _ _ _ hlt0]; exact hpA
        obtain ⟨w8, hw8⟩ : ∃ w8, w8 = A.alloc (.cells (keyC k).toArray 38) := ⟨_, rfl⟩
        have hlt8 : W.heap.size < w8.heap.size := by rw [hw8]; simp; omega
        rw [← hw8] at hb8 hp8 hr8 ⊢
        replace hw8 := Box.mk hw8
        have hall : ∀ w', KeyS W.heap.size w8 w' → W.heap.size < w'.heap.size := fun w' h => h.lt
        refine hreg_begin (S := KeyS W.heap.size w8) (by kernel_rfl) ⟨(SinceB.refl (by omega)).drew, by rw [canPut_drew]; exact hp8, hlt8⟩ (fun hHeld => ?_)
        simp only [List.length_cons, List.length_nil, Nat.zero_add, Nat.reduceAdd, Array.replicate]
        refine hreg_take (i := 1) rfl (by kernel_rfl) (by kernel_rfl) (by kernel_rfl) hreg_panic (by rfl) hHeld ?_
        apply Exists.intro
        refine ⟨fun w' hw' => ?_, ?_⟩
        · have hf := hall w' hw'
          go_simp
          try go_bits
          exact yieldsV_mk rfl
        simp only [Act.put, List.setIfInBounds_toArray, List.set_cons_zero, List.set_cons_succ]
        refine hreg_take (i := 2) rfl (by kernel_rfl) (by kernel_rfl) (by kernel_rfl) hreg_panic (by rfl) hHeld ?_
        apply Exists.intro
        refine ⟨fun w' hw' => ?_, ?_⟩
        · have hf := hall w' hw'
          go_simp
          try go_bits
          exact yieldsV_mk rfl
        simp only [Act.put, List.setIfInBounds_toArray, List.set_cons_zero, List.set_cons_succ]
        refine wpAnyH_ready (rs := [0]) (by kernel_rfl) (by simp) ?_
        refine hreg_event (o := _) rfl (by rfl) (fun K hK => ?_) ?_
        · go_simp
          first
            | (have hcp := hHeld.put; go_simp)
            | skip
          refine hK.out _ _ ?_ (fun hHeld' => ?_)
          · first
              | exact hHeld
              | exact ⟨⟨below_setCells (Nat.le_refl _) _ _ _ _ hHeld.since.out, hHeld.since.le⟩, canPut_there.2 (World.there_setCells (canPut_there.1 hHeld.put) _ _ _), by rw [setCells_size]; exact hHeld.lt⟩
              | exact hHeld.next hb
              | exact hHeld
              | exact hHeld.alloc _
              | exact hHeld.setCell (by simp <;> omega) _
              | exact (hHeld.alloc _).alloc _
          replace hHeld := hHeld'
          clear hHeld' hK K
          simp only [Act.put, List.setIfInBounds_toArray, List.set_cons_zero, List.set_cons_succ]
          refine wpAnyH_ready (rs := [3]) (by kernel_rfl) (by simp) ?_
          refine hreg_event (o := _) rfl (by rfl) (fun K hK => ?_) ?_
          · go_simp
            first
              | (have hcp := hHeld.put; go_simp)
              | skip
            refine hK.out _ _ ?_ (fun hHeld' => ?_)
            · first
                | exact hHeld
                | exact ⟨⟨below_setCells (Nat.le_refl _) _ _ _ _ hHeld.since.out, hHeld.since.le⟩, canPut_there.2 (World.there_setCells (canPut_there.1 hHeld.put) _ _ _), by rw [setCells_size]; exact hHeld.lt⟩
                | exact hHeld.next hb
                | exact hHeld
                | exact hHeld.alloc _
                | exact hHeld.setCell (by simp <;> omega) _
                | exact (hHeld.alloc _).alloc _
            replace hHeld := hHeld'
            clear hHeld' hK K
            simp only [Act.put, List.setIfInBounds_toArray, List.set_cons_zero, List.set_cons_succ]
            refine hreg_take (i := 4) rfl (by kernel_rfl) (by kernel_rfl) (by kernel_rfl) hreg_panic (by rfl) hHeld ?_
            apply Exists.intro
            refine ⟨fun w' hw' => ?_, ?_⟩
            · have hf := hall w' hw'
              go_simp
              try go_bits
              exact yieldsV_mk rfl
            simp only [Act.put, List.setIfInBounds_toArray, List.set_cons_zero, List.set_cons_succ]
            refine hreg_take (i := 5) rfl (by kernel_rfl) (by kernel_rfl) (by kernel_rfl) hreg_panic (by rfl) hHeld ?_
            apply Exists.intro
            refine ⟨fun w' hw' => ?_, ?_⟩
            · have hf := hall w' hw'
              go_simp
              try go_bits
              exact yieldsV_mk rfl
            simp only [Act.put, List.setIfInBounds_toArray, List.set_cons_zero, List.set_cons_succ]
            refine wpAnyH_done (by kernel_rfl) ?_ _
            refine NoPanic.normal ?_
            have hrow := rowOf_of_rangeAt (World.rangeAt_setCells_same _ W.heap.size 0 (keyC k) (by rw [keyC_length]; exact canPut_there.1 hcp)) (keyC_length k)
            obtain ⟨wf, hwf⟩ : ∃ wf, wf = w8.drew.setCells W.heap.size 0 (keyC k) := ⟨_, rfl⟩
            rw [← hwf] at hrow hHeld ⊢
            replace hwf := Box.mk hwf
            go_wp2
            refine bodyPost_ret (v := valK (k, r, 0)) (res3 Try.results61 (res_key (b := W.heap.size) (o := 0) (by simp [go_sem]) hrow) (v2 := .string (sB r)) (by simp [oneRes]; try rfl) (by simp [oneRes]; try rfl)) rfl ?_
            exact gives rfl (hb8.trans hHeld.since.out)
          exact AllReadyH.nil
        exact AllReadyH.nil

end Go.Proofs.Ytahkiabpjfcfdaa

namespace Go.Proofs.Ytahkiabpjfcfdaa
open Go.RowKit
set_option linter.unusedVariables false
set_option linter.unusedSimpArgs false
set_option maxRecDepth 100000
attribute [local irreducible] Int.lt Int.le
attribute [local go_sem ↓] load_key store_key alloc_key build0_key eq_key load_point store_point alloc_point load_out store_out alloc_out load_tx store_tx alloc_tx
attribute [local go_sem] rowOf_drew rowOf_alloc_old rowOf_alloc_new canPut_drew canPut_alloc_old canPut_alloc_new setCells_alloc_new

theorem Bld.setCell {w : World} {b k : Nat} {bs : List UInt8} {c : Array Value} {t : TypeId} {fz : Nat × Nat} (h : Bld w b bs) (hk : w.heap[k]? = some (.cells c t fz)) (ht : t ≠ 5) (hb : k ≠ b) (v : Value) : Bld (w.setCell ⟨k, 0, none⟩ v) b bs := by
  have hh : ∀ g, g ≠ k → (w.setCell ⟨k, 0, none⟩ v).heap[g]? = w.heap[g]? := fun g hg => Below.heap_setCell _ _ _ _ hg
  have key : ∀ p, Lib.BuilderAtF 107 5 b b p (Lib.byteCells bs) w → Lib.BuilderAtF 107 5 b b p (Lib.byteCells bs) (w.setCell ⟨k, 0, none⟩ v) := by
    rintro p ⟨h0, u, h1, ⟨h2, h3⟩, h4⟩
    refine ⟨h0, u, by rw [hh b (fun e => hb e.symm)]; exact h1, ⟨h2, ?_⟩, h4⟩
    rcases h3 with h3 | ⟨g, cap, cur, fz', hv, hg, hgh, r⟩
    · exact .inl h3
    · refine .inr ⟨g, cap, cur, fz', hv, hg, ?_, r⟩
      rw [hh g (fun e => by subst e; rw [hk] at hgh; injection hgh with e1; injection e1 with e1 e2 e3; exact ht e2)]
      exact hgh
  exact h.elim (fun x => .inl (key _ x)) (fun x => .inr (key _ x))
theorem heap_setCell_one {w : World} {k : Nat} {v : Value} {t : TypeId} {fz : Nat × Nat} (h : w.heap[k]? = some (.cells #[v] t fz)) (u : Value) : (w.setCell ⟨k, 0, none⟩ u).heap[k]? = some (.cells #[u] t fz) := by
  simp only [World.setCell, Array.getElem?_modify, if_true, h, Option.map_some]
  simp
theorem heap_setCell_ne {w : World} {k g : Nat} (h : g ≠ k) (u : Value) : (w.setCell ⟨k, 0, none⟩ u).heap[g]? = w.heap[g]? := Below.heap_setCell _ _ _ _ h

/-- The variables of the writer of nullifiers: is it the first, the writer of keys, the transaction. -/
structure NB (b fb kb tb : Nat) (t : TxV) (i : Nat) (w : World) : Prop where
  first : w.heap[fb]? = some (.cells #[.bool (decide (i = 0))] 4 (0, 0))
  key : KB b kb w
  tx : w.heap[tb]? = some (.cells (txC t).toArray 41 (0, 0))
  ne : b < fb ∧ fb ≠ kb ∧ tb < b
theorem NB.keep {b fb kb tb : Nat} {t : TxV} {i : Nat} {w w' : World} (h : NB b fb kb tb t i w) (hk : Kp b w w') : NB b fb kb tb t i w' :=
  ⟨hk.heap h.first (by have := h.ne; omega) (by decide), h.key.keep hk, hk.heap h.tx (by have := h.ne; omega) (by decide), h.ne⟩
def nullF (t : TxV) (i : Nat) (k : Key) : List UInt8 := (if i = 0 then t.anchor.val else []) ++ k.val
theorem nullF_length (t : TxV) (i : Nat) (k : Key) : (nullF t i k).length ≤ 64 := by
  unfold nullF
  rw [List.length_append, k.property]
  split
  · rw [t.anchor.property]; omega
  · simp
/-- What a transaction's cells are, all of them. -/
theorem tx_all {w : World} {b : Nat} {t : TxV} (h : w.heap[b]? = some (.cells (txC t).toArray 41 (0, 0))) :
    b < w.heap.size ∧ w.cell? ⟨b, 0, none⟩ = some (.int .u32 t.exp) ∧ w.cell? ⟨b, 1, none⟩ = some (.slice t.ins.a t.ins.len t.ins.cap) ∧ w.cell? ⟨b, 2, none⟩ = some (.slice t.outs.a t.outs.len t.outs.cap) ∧
      rowOf w b 3 32 = some (keyC t.anchor) ∧ w.cell? ⟨b, 35, none⟩ = some (.slice t.nulls.a t.nulls.len t.nulls.cap) ∧ w.cell? ⟨b, 36, none⟩ = some (.slice t.notes.a t.notes.len t.notes.cap) ∧ w.cell? ⟨b, 37, none⟩ = some (.int .i64 t.bal) := by
  have hr : rowOf w b 0 38 = some (txC t) := by
    rw [rowOf_block h 0 38 (by simp [txC_length])]
    congr 1; simp
    exact List.take_of_length_le (by rw [txC_length]; exact Nat.le_refl _)
  have hc := (rowOf_some.1 hr).2
  have c := fun j v (e : (txC t)[j]? = some v) => by
    have := hc j v e
    rw [Nat.zero_add] at this
    exact this
  refine ⟨(Array.getElem?_eq_some_iff.1 h).1, c 0 _ (txC_0 t), c 1 _ (txC_1 t), c 2 _ (txC_2 t), ?_, c 35 _ (txC_35 t), c 36 _ (txC_36 t), c 37 _ (txC_37 t)⟩
  have := rowOf_sub hr 3 32 (by omega)
  rw [Nat.zero_add] at this
  rw [this]
  unfold txC
  rw [List.drop_succ_cons, List.drop_succ_cons, List.drop_succ_cons, List.drop_zero, List.take_append_of_le_length (by rw [keyC_length]; exact Nat.le_refl _), List.take_of_length_le (by rw [keyC_length]; exact Nat.le_refl _)]

set_option maxHeartbeats 1000000 in
theorem enc4_any {b fb kb tb : Nat} {t : TxV} {i : Nat} {bs : List UInt8} (k : Key) {w : World} (h : Bld w b bs) (hN : NB b fb kb tb t i w) (hlen : bs.length ≤ 80000) :
    Calls Try.prog 89 #[.agg (keyC k).toArray, .pointer (some ⟨fb, 0, none⟩), .pointer (some ⟨kb, 0, none⟩), .pointer (some ⟨tb, 0, none⟩)] w
      (fun e w' => e = .returned (.tuple #[]) ∧ Bld w' b (bs ++ nullF t i k) ∧ NB b fb kb tb t (i + 1) w' ∧ Below b w w') := by
  have hk1 : Kp b w (w.alloc (.cells (keyC k).toArray 38)) := (Kp.refl b w).alloc (Nat.le_of_lt h.lt) _
  have hH1 : (w.alloc (.cells (keyC k).toArray 38)).heap[w.heap.size]? = some (.cells (keyC k).toArray 38 (0, 0)) := heap_alloc_new w _
  have hr1 : ∀ w', w'.heap[w.heap.size]? = some (.cells (keyC k).toArray 38 (0, 0)) → rowOf w' w.heap.size 0 32 = some (keyC k) := fun w' hw => by
    have := rowOf_block hw 0 32 (by simp [keyC_length])
    rw [this]; congr 1; simp; exact List.take_of_length_le (by rw [keyC_length]; exact Nat.le_refl _)
  have h1 := h.alloc (.cells (keyC k).toArray 38)
  have hlt := h.lt
  have hs1 : (w.alloc (.cells (keyC k).toArray 38)).heap.size = w.heap.size + 1 := by simp
  have hN1 := hN.keep hk1
  have hfw : fb < w.heap.size := (Array.getElem?_eq_some_iff.1 hN.first).1
  replace h := Box.mk h
  replace hN := Box.mk hN
  obtain ⟨hb1, hb2, hb3⟩ := hN1.ne
  have hf1 := hN1.first
  have f1 : (w.alloc (.cells (keyC k).toArray 38)).cell? ⟨fb, 0, none⟩ = some (.bool (decide (i = 0))) := by rw [cell_of_row _ fb 0 _ _ _ hf1]; rfl
  have f2 : fb < (w.alloc (.cells (keyC k).toArray 38)).heap.size := (Array.getElem?_eq_some_iff.1 hf1).1
  by_cases hi : i = 0
  · rw [decide_eq_true hi] at f1
    have hF : nullF t i k = t.anchor.val ++ k.val := by unfold nullF; rw [if_pos hi]
    rw [hF, ← List.append_assoc]
    replace hF := Box.mk hF
    obtain ⟨t0, t1, t2, t3, t4, t5, t6, t7⟩ := tx_all hN1.tx
    clear t1 t2 t3 t5 t6 t7
    obtain ⟨d1, d2⟩ := hN1.key.cell
    go_enter Try.func89, Try.ntmps89
    go_wp2_with fail
    generalize w.alloc (.cells (keyC k).toArray 38) = w1 at *
    refine (enc1_any t.anchor h1 (by omega)).mono ?_
    rintro e w2 ⟨rfl, h2, hk2⟩
    have hN2 := hN1.keep hk2
    have hH2 := hk2.heap hH1 (by omega) (by decide)
    have hs2 := hk2.size
    have hf2 := hN2.first
    have h3 := h2.setCell hf2 (by decide) (by omega) (.bool false)
    have hf3 := heap_setCell_one hf2 (.bool false)
    have hK3 : KB b kb (w2.setCell ⟨fb, 0, none⟩ (.bool false)) := ⟨by rw [heap_setCell_ne (fun e => hb2 e.symm)]; exact hN2.key.1, hN2.key.2⟩
    have hT3 : (w2.setCell ⟨fb, 0, none⟩ (.bool false)).heap[tb]? = some (.cells (txC t).toArray 41 (0, 0)) := by rw [heap_setCell_ne (by omega)]; exact hN2.tx
    have hR3 : rowOf (w2.setCell ⟨fb, 0, none⟩ (.bool false)) w.heap.size 0 32 = some (keyC k) := hr1 _ (by rw [heap_setCell_ne (by omega)]; exact hH2)
    have hB3 : Below b w (w2.setCell ⟨fb, 0, none⟩ (.bool false)) := Below.setCell (hk1.trans hk2).below (Nat.le_of_lt hb1) _
    obtain ⟨d3, d4⟩ := hK3.cell
    have g1 : w2.cell? ⟨fb, 0, none⟩ = some (.bool true) := by rw [cell_of_row _ fb 0 _ _ _ hf2]; simp [hi]
    have g2 : w2.frozen? ⟨fb, 0, none⟩ = false := frozen_of_row _ fb 0 _ _ hf2
    have g3 : fb < w2.heap.size := (Array.getElem?_eq_some_iff.1 hf2).1
    have g4 : w.heap.size < (w2.setCell ⟨fb, 0, none⟩ (.bool false)).heap.size := by simp [World.setCell]; omega
    replace hr1 := Box.mk hr1
    replace h2 := Box.mk h2
    replace h1 := Box.mk h1
    replace hN1 := Box.mk hN1
    replace hN2 := Box.mk hN2
    replace hf1 := Box.mk hf1
    replace hf2 := Box.mk hf2
    replace hf3 := Box.mk hf3
    replace hH1 := Box.mk hH1
    replace hH2 := Box.mk hH2
    clear f1 t4 d1
    go_wp2_with fail
    generalize w2.setCell ⟨fb, 0, none⟩ (.bool false) = w3 at *
    refine (enc1_any k h3 (by rw [List.length_append, t.anchor.property]; omega)).mono ?_
    rintro e w4 ⟨rfl, h4, hk4⟩
    have hN4 : NB b fb kb tb t (i + 1) w4 := NB.keep ⟨by rw [hf3.out]; simp, hK3, hT3, hb1, hb2, hb3⟩ hk4
    replace h4 := Box.mk h4
    replace hN4 := Box.mk hN4
    go_wp2
    go_end0
    exact ⟨rfl, h4.out, hN4.out, hB3.trans hk4.below⟩
  · rw [decide_eq_false hi] at f1
    have hF : nullF t i k = k.val := by unfold nullF; rw [if_neg hi]; rfl
    rw [hF]
    replace hF := Box.mk hF
    go_enter Try.func89, Try.ntmps89
    have h3 := h1.setCell hf1 (by decide) (by omega) (.bool false)
    have hf3 := heap_setCell_one hf1 (.bool false)
    have hK3 : KB b kb ((w.alloc (.cells (keyC k).toArray 38)).setCell ⟨fb, 0, none⟩ (.bool false)) := ⟨by rw [heap_setCell_ne (fun e => hb2 e.symm)]; exact hN1.key.1, hN1.key.2⟩
    have hT3 : ((w.alloc (.cells (keyC k).toArray 38)).setCell ⟨fb, 0, none⟩ (.bool false)).heap[tb]? = some (.cells (txC t).toArray 41 (0, 0)) := by rw [heap_setCell_ne (by omega)]; exact hN1.tx
    have hR3 : rowOf ((w.alloc (.cells (keyC k).toArray 38)).setCell ⟨fb, 0, none⟩ (.bool false)) w.heap.size 0 32 = some (keyC k) := hr1 _ (by rw [heap_setCell_ne (by omega)]; exact hH1)
    have hB3 : Below b w ((w.alloc (.cells (keyC k).toArray 38)).setCell ⟨fb, 0, none⟩ (.bool false)) := Below.setCell hk1.below (Nat.le_of_lt hb1) _
    have hs3 : ((w.alloc (.cells (keyC k).toArray 38)).setCell ⟨fb, 0, none⟩ (.bool false)).heap.size = w.heap.size + 1 := by simp [World.setCell]
    rw [setCell_alloc_old w (.cells (keyC k).toArray 38) fb 0 (.bool false) hfw] at h3 hf3 hK3 hT3 hR3 hB3 hs3
    obtain ⟨d3, d4⟩ := hK3.cell
    have g1 : w.cell? ⟨fb, 0, none⟩ = some (.bool false) := by rw [cell_of_row _ fb 0 _ _ _ hN.out.first]; simp [hi]
    have g2 : w.frozen? ⟨fb, 0, none⟩ = false := frozen_of_row _ fb 0 _ _ hN.out.first
    have g4 : w.heap.size < ((w.setCell ⟨fb, 0, none⟩ (.bool false)).alloc (.cells (keyC k).toArray 38)).heap.size := by omega
    replace hr1 := Box.mk hr1
    replace h1 := Box.mk h1
    replace hN1 := Box.mk hN1
    replace hf3 := Box.mk hf3
    replace hf1 := Box.mk hf1
    replace hH1 := Box.mk hH1
    clear hs1 f1 f2
    go_wp2_with fail
    generalize (w.setCell ⟨fb, 0, none⟩ (.bool false)).alloc (.cells (keyC k).toArray 38) = w3 at *
    refine (enc1_any k h3 (by omega)).mono ?_
    rintro e w4 ⟨rfl, h4, hk4⟩
    have hN4 : NB b fb kb tb t (i + 1) w4 := NB.keep ⟨by rw [hf3.out]; simp, hK3, hT3, hb1, hb2, hb3⟩ hk4
    replace h4 := Box.mk h4
    replace hN4 := Box.mk hN4
    go_wp2
    go_end0
    exact ⟨rfl, h4.out, hN4.out, hB3.trans hk4.below⟩

end Go.Proofs.Ytahkiabpjfcfdaa

namespace Go.Proofs.Ytahkiabpjfcfdaa
open Go.RowKit
set_option linter.unusedVariables false
set_option linter.unusedSimpArgs false
set_option maxRecDepth 100000
attribute [local irreducible] Int.lt Int.le
attribute [local go_sem ↓] load_key store_key alloc_key build0_key eq_key load_point store_point alloc_point load_out store_out alloc_out load_tx store_tx alloc_tx
attribute [local go_sem] rowOf_drew rowOf_alloc_old rowOf_alloc_new canPut_drew canPut_alloc_old canPut_alloc_new setCells_alloc_new

/-- A transaction's content. -/
structure TxD where
  exp : Int
  ins : List PointV
  outs : List OutV
  anchor : Key
  nulls : List Key
  notes : List Key
  bal : Int
/-- The value t has the content d, in the world w. -/
structure TxL (w : World) (t : TxV) (d : TxD) : Prop where
  ins : SL pointC 33 w t.ins.a t.ins.len t.ins.cap d.ins
  outs : SL outC 33 w t.outs.a t.outs.len t.outs.cap d.outs
  nulls : SL keyC 32 w t.nulls.a t.nulls.len t.nulls.cap d.nulls
  notes : SL keyC 32 w t.notes.a t.notes.len t.notes.cap d.notes
  idx : ∀ p : PointV, p ∈ d.ins → 0 ≤ p.idx ∧ p.idx ≤ 4294967295
  val : ∀ p : OutV, p ∈ d.outs → -9223372036854775808 ≤ p.value ∧ p.value ≤ 9223372036854775807
  exp : t.exp = d.exp ∧ 0 ≤ d.exp ∧ d.exp ≤ 4294967295
  anchor : t.anchor = d.anchor
  bal : t.bal = d.bal ∧ -9223372036854775808 ≤ d.bal ∧ d.bal ≤ 9223372036854775807
theorem TxL.below {w w' : World} {t : TxV} {d : TxD} (h : TxL w t d) (hb : Below w.heap.size w w') : TxL w' t d := ⟨h.ins.below hb, h.outs.below hb, h.nulls.below hb, h.notes.below hb, h.idx, h.val, h.exp, h.anchor, h.bal⟩
theorem TxL.of {w : World} {t : TxV} {ins : List PointV} {outs : List OutV} {nulls notes : List Key} (h : TxHas w t ins outs nulls notes) : TxL w t ⟨t.exp, ins, outs, t.anchor, nulls, notes, t.bal⟩ :=
  ⟨h.ins.sl pointC_length, h.outs.sl outC_length, h.nulls.sl keyC_length, h.notes.sl keyC_length, h.idx, h.val, ⟨rfl, h.exp⟩, rfl, ⟨rfl, h.bal⟩⟩

@[irreducible] def encB (d : TxD) : List UInt8 :=
  le 4 d.exp.toNat ++ compactL d.ins.length ++ catF (fun _ p => ptB p) 0 d.ins ++ compactL d.outs.length ++ catF (fun _ p => outB p) 0 d.outs ++ compactL d.nulls.length ++ catF (fun i k => (if i = 0 then d.anchor.val else []) ++ k.val) 0 d.nulls ++ compactL d.notes.length ++ catF (fun _ k => k.val) 0 d.notes ++ le 8 (u64N d.bal)
def manyB (d : TxD) : Bool := decide (40 < d.ins.length) || decide (40 < d.outs.length) || decide (40 < d.nulls.length) || decide (40 < d.notes.length)
@[irreducible] def encV (d : TxD) : List UInt8 × Int := if manyB d then ([], 51) else if d.nulls.length = 0 ∧ ¬ (d.anchor = zeroKey) then ([], 1) else (encB d, 0)
def valE (r : List UInt8 × Int) : Value := .tuple #[.string (sB r.1), .int .i64 r.2]

@[irreducible] def max4 (a b c d : Int) : Int := if d > (if c > (if b > a then b else a) then c else (if b > a then b else a)) then d else (if c > (if b > a then b else a) then c else (if b > a then b else a))
@[go_sem] theorem run_max_int4 {P : Program} (ts : Array TypeId) (t : TypeId) (k k' k'' k3 : IntKind) (x y z u : Int) (w : World) : (Builtin.max_ ts t #[.int k x, .int k' y, .int k'' z, .int k3 u]).run P w = .ok (.int k (max4 x y z u)) w := by
  unfold max4
  simp [Builtin.max_, Builtin.max2]
@[go_sem] theorem store_func {P : Program} (a : Addr) (f : Fn) (x y : Array Value) (m : Mode) (w : World) : Sem.run P (store a (.func f x y) m) w = stored P w a (.func f x y) m := run_store P w a _ m rfl
theorem max4_many (d : TxD) : decide ((40 : Int) < max4 d.ins.length d.outs.length d.nulls.length d.notes.length) = manyB d := by
  unfold max4 manyB
  rw [Bool.eq_iff_iff]
  simp only [decide_eq_true_eq, Bool.or_eq_true]
  split <;> split <;> (try split) <;> omega

/-- What Encode's variables hold: the writer of keys, the transaction. -/
structure EI (b kb tb : Nat) (t : TxV) (w : World) : Prop where
  key : KB b kb w
  tx : w.heap[tb]? = some (.cells (txC t).toArray 41 (0, 0))
  ne : tb ≠ b
theorem EI.keep {b kb tb : Nat} {t : TxV} {w w' : World} (h : EI b kb tb t w) (hk : Kp b w w') : EI b kb tb t w' := ⟨h.key.keep hk, hk.heap h.tx h.ne (by decide), h.ne⟩
theorem compactL_le (n : Nat) : (compactL n).length ≤ 9 := by rw [compactL_length]; split <;> (try split) <;> (try split) <;> omega
theorem catF_le {α : Type} {F : Nat → α → List UInt8} (hF : ∀ i x, (F i x).length ≤ 64) {l : List α} (hl : l.length ≤ 40) (i : Nat) : (catF F i l).length ≤ 2560 := by
  have := catF_length hF l i
  have h2 : l.length * 64 ≤ 40 * 64 := Nat.mul_le_mul_right _ hl
  omega

theorem ent2 (args : Array Value) (w : World) : (callFunc 85 args).run Try.prog w = .ok (.enter 85 args) w := by simp [go_sem]
theorem ent3 (args : Array Value) (w : World) : (callFunc 87 args).run Try.prog w = .ok (.enter 87 args) w := by simp [go_sem]
theorem ent4 (args : Array Value) (w : World) : (callFunc 89 args).run Try.prog w = .ok (.enter 89 args) w := by simp [go_sem]
theorem ent1 (args : Array Value) (w : World) : (callFunc 82 args).run Try.prog w = .ok (.enter 82 args) w := by simp [go_sem]

set_option maxHeartbeats 4000000 in
theorem encode_any (t : TxV) (d : TxD) (W : World) (h : TxL W t d) : Calls Try.prog 49 #[.agg (txC t).toArray] W (Gives (valE (encV d)) W) := by
  have e1 := h.ins.1
  have e2 := h.outs.1
  have e3 := h.nulls.1
  have e4 := h.notes.1
  have hmx := max4_many d
  rw [← e1, ← e2, ← e3, ← e4] at hmx
  have hB0 : Below W.heap.size W (W.alloc (.cells (txC t).toArray 41)) := (Below.refl _ _).alloc (Nat.le_refl _) _
  cases hm : manyB d
  · rw [hm, decide_eq_false_iff_not] at hmx
    by_cases hz : d.nulls.length = 0 ∧ ¬ (d.anchor = zeroKey)
    · have hE : encV d = ([], 1) := by unfold encV; rw [hm, if_neg (by simp), if_pos hz]
      rw [hE]
      have hn0 : t.nulls.len = 0 := by rw [e3]; exact hz.1
      have hmx0 : ¬ (40 : Int) < max4 t.ins.len t.outs.len 0 t.notes.len := by have := hmx; rw [hn0] at this; exact this
      have ha : (t.anchor == zeroKey) = false := by rw [h.anchor]; simpa using hz.2
      have hA : rowOf (W.alloc (.cells (txC t).toArray 41)) W.heap.size 3 32 = some (keyC t.anchor) := (tx_all (heap_alloc_new W _)).2.2.2.2.1
      replace h := Box.mk h
      replace hz := Box.mk hz
      replace e1 := Box.mk e1
      replace e2 := Box.mk e2
      replace e3 := Box.mk e3
      replace e4 := Box.mk e4
      replace hE := Box.mk hE
      go_enter Try.func49, Try.ntmps49
      go_wp2
      go_ret2
      exact gives rfl hB0
    · have hE : encV d = (encB d, 0) := by unfold encV; rw [hm, if_neg (by simp), if_neg hz]
      rw [hE]
      obtain ⟨hm1, hm2, hm3, hm4⟩ : t.ins.len ≤ 40 ∧ t.outs.len ≤ 40 ∧ t.nulls.len ≤ 40 ∧ t.notes.len ≤ 40 := by
        have := hm
        unfold manyB at this
        simp only [Bool.or_eq_false_iff, decide_eq_false_iff_not] at this
        omega
      have hk : d.nulls.length = 0 → (t.anchor == zeroKey) = true := fun h0 => by rw [h.anchor]; simpa using Decidable.not_not.1 (fun hne => hz ⟨h0, hne⟩)
      have hA : rowOf (W.alloc (.cells (txC t).toArray 41)) W.heap.size 3 32 = some (keyC t.anchor) := (tx_all (heap_alloc_new W _)).2.2.2.2.1
      replace h := Box.mk h
      replace hz := Box.mk hz
      replace e1 := Box.mk e1
      replace e2 := Box.mk e2
      replace e4 := Box.mk e4
      replace hE := Box.mk hE
      have key : (t.nulls.len = 0 ∧ (t.anchor == zeroKey) = true ∧ ¬ (40 : Int) < max4 t.ins.len t.outs.len 0 t.notes.len) ∨ ¬ ((t.nulls.len : Int) = 0) := by
        by_cases h0 : d.nulls.length = 0
        · exact .inl ⟨by rw [e3]; exact h0, hk h0, by have := hmx; rw [show t.nulls.len = 0 from by rw [e3]; exact h0] at this; exact this⟩
        · exact .inr (by omega)
      replace e3 := Box.mk e3
      clear hk
      rcases key with ⟨k1, k2', k3'⟩ | k1
      case' inr => have k2' := trivial; have k3' := trivial
      all_goals
      (go_enter Try.func49, Try.ntmps49
       go_wp2_with fail
       clear k1 k2' k3'
       have hw2 : ((W.alloc (.cells (txC t).toArray 41)).alloc (.cells #[.pointer none, .slice none 0 0] 107)).heap.size = W.heap.size + 1 + 1 := by simp
       have h1 : ((W.alloc (.cells (txC t).toArray 41)).alloc (.cells #[.pointer none, .slice none 0 0] 107)).heap[W.heap.size]? = some (.cells (txC t).toArray 41 (0, 0)) := by
         rw [Below.heap_alloc _ _ _ (by simp)]; exact heap_alloc_new W _
       have h2 : Bld ((W.alloc (.cells (txC t).toArray 41)).alloc (.cells #[.pointer none, .slice none 0 0] 107)) (W.heap.size + 1) [] := Bld.new _ _ (by simp)
       have h4 : Below W.heap.size W ((W.alloc (.cells (txC t).toArray 41)).alloc (.cells #[.pointer none, .slice none 0 0] 107)) := hB0.alloc (by simp) _
       clear hA
       generalize (W.alloc (.cells (txC t).toArray 41)).alloc (.cells #[.pointer none, .slice none 0 0] 107) = w1 at *
       have hK : EI (W.heap.size + 1) (W.heap.size + 1 + 1) W.heap.size t (w1.alloc (.cells #[.func (.func 82) #[] #[.pointer (some ⟨W.heap.size + 1, 0, none⟩)]] 112)) :=
         ⟨⟨by rw [← hw2]; exact heap_alloc_new w1 _, by omega⟩, by rw [Below.heap_alloc _ _ _ (by omega)]; exact h1, by omega⟩
       have hB2 := h2.alloc (.cells #[.func (.func 82) #[] #[.pointer (some ⟨W.heap.size + 1, 0, none⟩)]] 112)
       have hW2 := h4.alloc (by omega) (.cells #[.func (.func 82) #[] #[.pointer (some ⟨W.heap.size + 1, 0, none⟩)]] 112)
       clear h1 h2 h4
       generalize w1.alloc (.cells #[.func (.func 82) #[] #[.pointer (some ⟨W.heap.size + 1, 0, none⟩)]] 112) = w2 at *
       rw [u64N_wrap]
       refine (put_any (u64N t.exp) 4 w2 (u64N_lt _)).mono ?_
       rintro e w3 ⟨rfl, hb3⟩
       rw [show putL (u64N t.exp) 4 = le 4 (u64N t.exp) from putL_nat _ 4 (by omega) (by omega)]
       have B3 := hB2.below hb3
       have I3 := hK.keep (Kp.of hb3 (Nat.le_of_lt hB2.lt))
       have W3 := hW2.trans (hb3.mono hW2.size)
       clear hB2 hK hW2
       go_wp2_with fail
       refine (ws_any (le 4 (u64N t.exp)) B3 (by rw [le_length]; simp)).mono ?_
       rintro e w4 ⟨rfl, B4, kp4⟩
       rw [List.nil_append] at B4
       have I4 := I3.keep kp4
       have W4 := W3.trans (kp4.below.mono (by omega))
       clear B3 I3 W3
       obtain ⟨t0, t1, t2, t3, t4, t5, t6, t7⟩ := tx_all I4.tx
       clear t1 t3 t4 t5 t6 t7
       have n1 : t.ins.len ≤ 40 := hm1
       have R := wr_pt 85 #[.pointer (some ⟨W.heap.size + 1 + 1, 0, none⟩), .pointer (some ⟨W.heap.size + 1, 0, none⟩)] (fun _ p => ptB p) (fun _ w => EI (W.heap.size + 1) (W.heap.size + 1 + 1) W.heap.size t w) (W.heap.size + 1) t.ins.a t.ins.len t.ins.cap d.ins W ent2 (fun _ _ _ h k => h.keep k)
         (fun i x w bs hx hB hI hl => (enc2_any x hB hI.key (h.out.idx x hx) (by omega)).mono fun e w' ⟨q1, q2, q3⟩ => ⟨q1, q2, hI.keep q3, q3.below⟩)
         (fun _ x => by rw [ptB_length]; omega) h.out.ins (by omega) hm1 w4 W4 _ B4 (by rw [le_length]; omega) I4
       replace R := Box.mk R
       replace B4 := Box.mk B4
       replace I4 := Box.mk I4
       go_wp2_with fail
       refine R.out.mono ?_
       rintro e w5 ⟨rfl, B5, I5, b5⟩
       clear t0 t2
       have W5 := W4.trans (b5.mono (by omega))
       obtain ⟨s5, hs5⟩ : ∃ s, s = le 4 (u64N t.exp) ++ compactL t.ins.len ++ catF (fun _ p => ptB p) 0 d.ins := ⟨_, rfl⟩
       have l5 : s5.length ≤ 3000 := by
         have c1 := compactL_le t.ins.len
         have c2 := catF_le (F := fun _ p => ptB p) (fun _ x => by rw [ptB_length]; omega) (l := d.ins) (by rw [← e1.out]; exact hm1) 0
         rw [hs5]; simp only [List.length_append, le_length]; omega
       rw [← hs5] at B5
       replace hs5 := Box.mk hs5
       clear R B4 I4 W4 b5
       obtain ⟨t0, t1, t2, t3, t4, t5, t6, t7⟩ := tx_all I5.tx
       clear t1 t2 t4 t5 t6 t7
       have R := wr_out 87 #[.pointer (some ⟨W.heap.size + 1, 0, none⟩), .pointer (some ⟨W.heap.size + 1 + 1, 0, none⟩)] (fun _ p => outB p) (fun _ w => EI (W.heap.size + 1) (W.heap.size + 1 + 1) W.heap.size t w) (W.heap.size + 1) t.outs.a t.outs.len t.outs.cap d.outs W ent3 (fun _ _ _ h k => h.keep k)
         (fun i x w bs hx hB hI hl => (enc3_any x hB hI.key (by omega)).mono fun e w' ⟨q1, q2, q3⟩ => ⟨q1, q2, hI.keep q3, q3.below⟩)
         (fun _ x => by rw [outB_length]; omega) h.out.outs (by omega) hm2 w5 W5 _ B5 (by omega) I5
       replace R := Box.mk R
       replace B5 := Box.mk B5
       replace I5 := Box.mk I5
       go_wp2_with fail
       refine R.out.mono ?_
       rintro e w6 ⟨rfl, B6, I6, b6⟩
       clear t0 t3
       have W6 := W5.trans (b6.mono (by omega))
       obtain ⟨s6, hs6⟩ : ∃ s, s = s5 ++ compactL t.outs.len ++ catF (fun _ p => outB p) 0 d.outs := ⟨_, rfl⟩
       have l6 : s6.length ≤ 6000 := by
         have c1 := compactL_le t.outs.len
         have c2 := catF_le (F := fun _ p => outB p) (fun _ x => by rw [outB_length]; omega) (l := d.outs) (by rw [← e2.out]; exact hm2) 0
         rw [hs6]; simp only [List.length_append]; omega
       rw [← hs6] at B6
       replace hs6 := Box.mk hs6
       clear R B5 I5 W5 b6
       have hsz6 : W.heap.size + 1 + 1 < w6.heap.size := I6.key.cell.2
       have N7 : NB (W.heap.size + 1) w6.heap.size (W.heap.size + 1 + 1) W.heap.size t 0 (w6.alloc (.cells #[.bool true] 4)) :=
         ⟨heap_alloc_new w6 _, I6.key.keep ((Kp.refl _ _).alloc (by omega) _), by rw [Below.heap_alloc _ _ _ (by omega)]; exact I6.tx, by omega⟩
       have B7 := B6.alloc (.cells #[.bool true] 4)
       have W7 := W6.alloc W6.size (.cells #[.bool true] 4)
       have hs7 : (w6.alloc (.cells #[.bool true] 4)).heap.size = w6.heap.size + 1 := by simp
       obtain ⟨t0, t1, t2, t3, t4, t5, t6, t7⟩ := tx_all N7.tx
       clear t1 t2 t3 t4 t6 t7
       have R := fun (fb : Nat) (hfb : fb = w6.heap.size) (w7 : World) (N7 : NB (W.heap.size + 1) fb (W.heap.size + 1 + 1) W.heap.size t 0 w7) (B7 : Bld w7 (W.heap.size + 1) s6) (W7 : Below W.heap.size W w7) => wr_key 89 #[.pointer (some ⟨fb, 0, none⟩), .pointer (some ⟨W.heap.size + 1 + 1, 0, none⟩), .pointer (some ⟨W.heap.size, 0, none⟩)] (fun i k => nullF t i k) (fun i w => NB (W.heap.size + 1) fb (W.heap.size + 1 + 1) W.heap.size t i w) (W.heap.size + 1) t.nulls.a t.nulls.len t.nulls.cap d.nulls W ent4 (fun _ _ _ h k => h.keep k)
         (fun i x w bs hx hB hI hl => enc4_any x hB hI hl)
         (fun i x => nullF_length t i x) h.out.nulls (by omega) hm3 w7 W7 _ B7 (by omega) N7
       replace R := Box.mk (R _ rfl _ N7 B7 W7)
       replace N7 := Box.mk N7
       replace B7 := Box.mk B7
       replace I6 := Box.mk I6
       replace B6 := Box.mk B6
       go_wp2_with fail
       generalize w6.alloc (.cells #[.bool true] 4) = w7 at *
       refine R.out.mono ?_
       rintro e w8 ⟨rfl, B8, N8, b8⟩
       clear t0 t5
       have W8 := W7.trans (b8.mono (by omega))
       have I8 : EI (W.heap.size + 1) (W.heap.size + 1 + 1) W.heap.size t w8 := ⟨N8.key, N8.tx, by omega⟩
       obtain ⟨s8, hs8⟩ : ∃ s, s = s6 ++ compactL t.nulls.len ++ catF (fun i k => nullF t i k) 0 d.nulls := ⟨_, rfl⟩
       have l8 : s8.length ≤ 9000 := by
         have c1 := compactL_le t.nulls.len
         have c2 := catF_le (F := fun i k => nullF t i k) (fun i x => nullF_length t i x) (l := d.nulls) (by rw [← e3.out]; exact hm3) 0
         rw [hs8]; simp only [List.length_append]; omega
       rw [← hs8] at B8
       replace hs8 := Box.mk hs8
       clear R B7 N7 N8 W7 b8 hs7
       obtain ⟨t0, t1, t2, t3, t4, t5, t6, t7⟩ := tx_all I8.tx
       obtain ⟨d1, d2⟩ := I8.key.cell
       clear t1 t2 t3 t4 t5 t7
       have R := wr_key 82 #[.pointer (some ⟨W.heap.size + 1, 0, none⟩)] (fun _ k => k.val) (fun _ w => EI (W.heap.size + 1) (W.heap.size + 1 + 1) W.heap.size t w) (W.heap.size + 1) t.notes.a t.notes.len t.notes.cap d.notes W ent1 (fun _ _ _ h k => h.keep k)
         (fun i x w bs hx hB hI hl => (enc1_any x hB (by omega)).mono fun e w' ⟨q1, q2, q3⟩ => ⟨q1, q2, hI.keep q3, q3.below⟩)
         (fun _ x => by rw [x.property]; omega) h.out.notes (by omega) hm4 w8 W8 _ B8 (by omega) I8
       replace R := Box.mk R
       replace B8 := Box.mk B8
       replace I8 := Box.mk I8
       go_wp2_with fail
       refine R.out.mono ?_
       rintro e w9 ⟨rfl, B9, I9, b9⟩
       clear t0 t6 d1 d2
       have W9 := W8.trans (b9.mono (by omega))
       obtain ⟨s9, hs9⟩ : ∃ s, s = s8 ++ compactL t.notes.len ++ catF (fun _ k => k.val) 0 d.notes := ⟨_, rfl⟩
       have l9 : s9.length ≤ 12000 := by
         have c1 := compactL_le t.notes.len
         have c2 := catF_le (F := fun _ (k : Key) => k.val) (fun _ x => by rw [x.property]; omega) (l := d.notes) (by rw [← e4.out]; exact hm4) 0
         rw [hs9]; simp only [List.length_append]; omega
       rw [← hs9] at B9
       replace hs9 := Box.mk hs9
       clear R B8 I8 W8 b9
       obtain ⟨t0, t1, t2, t3, t4, t5, t6, t7⟩ := tx_all I9.tx
       clear t1 t2 t3 t4 t5 t6
       replace I9 := Box.mk I9
       go_wp2_with fail
       rw [u64N_wrap]
       refine (put_any (u64N t.bal) 8 w9 (u64N_lt _)).mono ?_
       rintro e wa ⟨rfl, hba⟩
       rw [show putL (u64N t.bal) 8 = le 8 (u64N t.bal) from putL_nat _ 8 (by omega) (by omega)]
       have Ba := B9.below hba
       have Wa := W9.trans (hba.mono W9.size)
       replace B9 := Box.mk B9
       clear t0 t7
       go_wp2_with fail
       refine (ws_any (le 8 (u64N t.bal)) Ba (by rw [le_length]; omega)).mono ?_
       rintro e wb ⟨rfl, Bb, kpb⟩
       have Wb := Wa.trans (kpb.below.mono (by omega))
       replace Ba := Box.mk Ba
       go_wp2_with fail
       refine (str_any Bb).mono ?_
       rintro e wc ⟨rfl, Bc, kpc⟩
       have Wc := Wb.trans (kpc.below.mono (by omega))
       have hfin : s9 ++ le 8 (u64N t.bal) = encB d := by
         rw [hs9.out, hs8.out, hs6.out, hs5.out]
         unfold encB
         rw [e1.out, e2.out, e3.out, e4.out, h.out.exp.1, h.out.bal.1, show u64N d.exp = d.exp.toNat from by have := h.out.exp; unfold u64N; omega]
         unfold nullF
         rw [h.out.anchor]
       rw [hfin]
       replace hfin := Box.mk hfin
       replace Bb := Box.mk Bb
       replace Bc := Box.mk Bc
       go_wp2
       go_ret2
       exact gives rfl Wc)
  · rw [hm, decide_eq_true_eq] at hmx
    have hE : encV d = ([], 51) := by unfold encV; rw [hm, if_pos rfl]
    rw [hE]
    replace h := Box.mk h
    replace e1 := Box.mk e1
    replace e2 := Box.mk e2
    replace e3 := Box.mk e3
    replace e4 := Box.mk e4
    replace hE := Box.mk hE
    go_enter Try.func49, Try.ntmps49
    go_wp2
    go_ret2
    exact gives rfl hB0

end Go.Proofs.Ytahkiabpjfcfdaa

namespace Go.Proofs.Ytahkiabpjfcfdaa
open Go.RowKit
set_option linter.unusedVariables false
set_option linter.unusedSimpArgs false
set_option maxRecDepth 100000

/-! ### What Encode gives -/
theorem encV_cases (d : TxD) : (manyB d = true ∧ encV d = ([], 51)) ∨ (manyB d = false ∧ d.nulls.length = 0 ∧ ¬ d.anchor = zeroKey ∧ encV d = ([], 1)) ∨ (manyB d = false ∧ ¬ (d.nulls.length = 0 ∧ ¬ d.anchor = zeroKey) ∧ encV d = (encB d, 0)) := by
  cases hm : manyB d
  · by_cases hz : d.nulls.length = 0 ∧ ¬ d.anchor = zeroKey
    · exact .inr (.inl ⟨rfl, hz.1, hz.2, by unfold encV; rw [hm, if_neg (by simp), if_pos hz]⟩)
    · exact .inr (.inr ⟨rfl, hz, by unfold encV; rw [hm, if_neg (by simp), if_neg hz]⟩)
  · exact .inl ⟨rfl, by unfold encV; rw [hm, if_pos rfl]⟩
theorem manyB_false {d : TxD} (h : manyB d = false) : d.ins.length ≤ 40 ∧ d.outs.length ≤ 40 ∧ d.nulls.length ≤ 40 ∧ d.notes.length ≤ 40 := by
  unfold manyB at h
  simp only [Bool.or_eq_false_iff, decide_eq_false_iff_not] at h
  omega
theorem flat_length {α : Type} (f : α → List UInt8) (m : Nat) (hf : ∀ x, (f x).length = m) : ∀ (l : List α) (i : Nat), (catF (fun _ x => f x) i l).length = l.length * m
  | [], _ => by simp [catF]
  | x :: l, i => by rw [catF, List.length_append, hf, flat_length f m hf l, List.length_cons, Nat.add_mul]; omega
theorem compactL_one {n : Nat} (h : n ≤ 40) : (compactL n).length = 1 := by rw [compactL_length, if_pos (by omega)]
theorem nulls_length (a : Key) : ∀ (l : List Key), (catF (fun i k => (if i = 0 then a.val else []) ++ k.val) 0 l).length = l.length * 32 + (if l.length = 0 then 0 else 32) := by
  intro l
  cases l with
  | nil => rfl
  | cons k l =>
    have h : ∀ (l : List Key) (i : Nat), (catF (fun i (k : Key) => (if i = 0 then a.val else []) ++ k.val) (i + 1) l).length = l.length * 32 := by
      intro l
      induction l with
      | nil => intro i; rfl
      | cons x l ih => intro i; rw [catF, List.length_append, if_neg (by omega), List.nil_append, x.property, ih, List.length_cons]; omega
    rw [catF, List.length_append, if_pos rfl, List.length_append, a.property, k.property, h, List.length_cons, if_neg (by omega)]; omega
theorem encB_length {d : TxD} (h : manyB d = false) : (encB d).length = 16 + 36 * d.ins.length + 40 * d.outs.length + 32 * d.nulls.length + 32 * d.notes.length + (if d.nulls.length = 0 then 0 else 32) := by
  obtain ⟨h1, h2, h3, h4⟩ := manyB_false h
  unfold encB
  simp only [List.length_append, le_length, compactL_one h1, compactL_one h2, compactL_one h3, compactL_one h4]
  rw [flat_length ptB 36 ptB_length, flat_length outB 40 outB_length, flat_length (fun k : Key => k.val) 32 (fun k => k.property)]
  have := nulls_length d.anchor d.nulls
  split at this <;> split <;> omega

end Go.Proofs.Ytahkiabpjfcfdaa

namespace Go.Proofs.Ytahkiabpjfcfdaa
open Go.RowKit
set_option linter.unusedVariables false
set_option linter.unusedSimpArgs false
set_option maxRecDepth 100000
attribute [local irreducible] Int.lt Int.le
attribute [local go_sem ↓] load_key store_key alloc_key build0_key eq_key load_point store_point alloc_point build0_point load_out store_out alloc_out load_tx store_tx alloc_tx build0_tx
attribute [local go_sem] rowOf_drew rowOf_alloc_old rowOf_alloc_new canPut_drew canPut_alloc_old canPut_alloc_new setCells_alloc_new

/-- Is it a coinbase? -/
def cbB : List PointV → Bool
  | [p] => p.tx == zeroKey
  | _ => false
set_option maxHeartbeats 1000000 in
theorem coinbase_any (t : TxV) (ins : List PointV) (W : World) (h : SL pointC 33 W t.ins.a t.ins.len t.ins.cap ins) : Calls Try.prog 51 #[.agg (txC t).toArray] W (Gives (.bool (cbB ins)) W) := by
  have hB0 : Below W.heap.size W (W.alloc (.cells (txC t).toArray 41)) := (Below.refl _ _).alloc (Nat.le_refl _) _
  have hl := h.1
  have hcap := h.2.1
  match ins, hl with
  | [], hl =>
    replace hl : t.ins.len = 0 := hl
    replace h := Box.mk h
    go_enter Try.func51, Try.ntmps51
    go_wp2
    go_ret
    exact gives_bool rfl hB0
  | [p], hl =>
    replace hl : t.ins.len = 1 := hl
    obtain ⟨b, o, ha, hb, hr⟩ := SL.elem pointC_length h (i := 0) (x := p) rfl
    rw [Nat.zero_mul, Nat.add_zero] at hr
    obtain ⟨c1, c2⟩ := pt_row hr
    replace h := Box.mk h
    replace hr := Box.mk hr
    replace c2 := Box.mk c2
    go_enter Try.func51, Try.ntmps51
    go_wp2
    go_ret
    exact gives_bool rfl hB0
  | p :: q :: r, hl =>
    have hl' : ¬ ((t.ins.len : Int) = 1) := by rw [hl]; simp; omega
    replace h := Box.mk h
    replace hl := Box.mk hl
    go_enter Try.func51, Try.ntmps51
    go_wp2
    go_ret
    exact gives_bool rfl hB0

theorem tx_row38 {w : World} {b : Nat} {t : TxV} (hw : w.heap[b]? = some (.cells (txC t).toArray 41 (0, 0))) : rowOf w b 0 38 = some (txC t) := by
  rw [rowOf_block hw 0 38 (by simp [txC_length])]
  congr 1; simp
  exact List.take_of_length_le (by rw [txC_length]; exact Nat.le_refl _)
theorem pt_row33 {w : World} {b : Nat} {p : PointV} (hw : w.heap[b]? = some (.cells (pointC p).toArray 59 (0, 0))) : rowOf w b 0 33 = some (pointC p) := by
  rw [rowOf_block hw 0 33 (by simp [pointC_length])]
  congr 1; simp
  exact List.take_of_length_le (by rw [pointC_length]; exact Nat.le_refl _)
end Go.Proofs.Ytahkiabpjfcfdaa
