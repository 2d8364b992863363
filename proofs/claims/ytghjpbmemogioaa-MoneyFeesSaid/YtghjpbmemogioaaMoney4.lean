/- The contracts of package money: Add, Sub, Sum, Fee. -/
import Derived.Test.YtghjpbmemogioaaMoney3
namespace Go.Proofs.Ytghjpbmemogioaa
open Go.RowKit
set_option linter.unusedVariables false
set_option linter.unusedSimpArgs false

theorem IL.new (w : World) (l : List Int) (t : TypeId) (b : Nat) (vs : Array Value) (hb : b = w.heap.size) (hv : vs = (rows iC l).toArray) (hm : l.length ≤ 1000000) (hI : ∀ x ∈ l, I64 x) : IL (w.alloc (.cells vs t)) (some ⟨b, 0, none⟩) l.length l.length l := by
  subst hb hv
  exact ⟨SL.block iC_length (heap_alloc_new w _) (by unfold maxLen; omega), hI⟩
theorem rows_i2 (a b : Int) : (rows iC [a, b]).toArray = #[.int .i64 a, .int .i64 b] := by rw [rows_cons, rows_cons, rows_nil]; rfl
theorem rows_i1 (a : Int) : (rows iC [a]).toArray = #[.int .i64 a] := by rw [rows_cons, rows_nil]; rfl

def addV (a b : Int) : Option Int := addedO [a, b]

set_option maxHeartbeats 1000000 in
theorem addC_any (p q : Nat) (a b : Int) (w : World) (ha : I64 a) (hb : I64 b) (c1 : w.cell? ⟨p, 0, none⟩ = some (.int .i64 a)) (c2 : w.cell? ⟨q, 0, none⟩ = some (.int .i64 b)) : Calls Try.prog 34 #[.pointer (some ⟨p, 0, none⟩), .pointer (some ⟨q, 0, none⟩)] w (Tells (addV a b) w) := by
  have hIL : IL (w.alloc (.cells #[.int .i64 a, .int .i64 b] 2)) (some ⟨w.heap.size, 0, none⟩) 2 2 [a, b] := IL.new w [a, b] _ _ _ rfl (rows_i2 a b).symm (by simp) (by simp [ha, hb])
  have H := Box.mk hIL
  clear hIL
  go_enter Try.func34, Try.ntmps34
  go_wp2_with fail
  refine (added_any _ 2 2 [a, b] _ H.out).mono ?_
  rw [show addedO [a, b] = addV a b from rfl]
  cases ho : addV a b with
  | none =>
    replace ho := Box.mk ho
    rintro e w1 ⟨rfl, hb1⟩
    go_wp2
    exact ⟨rfl, tells_none (by first | rfl | exact ho.out) (Below.of hb1 (by simp) ((Below.refl _ _).alloc (Nat.le_refl _) _))⟩
  | some n =>
    replace ho := Box.mk ho
    rintro e w1 ⟨rfl, hb1⟩
    go_wp2
    go_ret
    exact tells_some (by first | rfl | exact ho.out) (Below.of hb1 (by simp) ((Below.refl _ _).alloc (Nat.le_refl _) _)) rfl

set_option maxHeartbeats 1000000 in
theorem subC_any (p q : Nat) (a b : Int) (w : World) (ha : I64 a) (hb : I64 b) (c1 : w.cell? ⟨p, 0, none⟩ = some (.int .i64 a)) (c2 : w.cell? ⟨q, 0, none⟩ = some (.int .i64 b)) : Calls Try.prog 36 #[.pointer (some ⟨p, 0, none⟩), .pointer (some ⟨q, 0, none⟩)] w (Tells (lessO a b) w) := by
  have ha' := Box.mk ha
  have hb' := Box.mk hb
  clear ha hb
  go_enter Try.func36, Try.ntmps36
  go_wp2_with fail
  refine (less_any a b _ ha'.out hb'.out).mono ?_
  cases ho : lessO a b with
  | none =>
    replace ho := Box.mk ho
    rintro e w1 ⟨rfl, hb1⟩
    go_wp2
    exact ⟨rfl, tells_none (by first | rfl | exact ho.out) hb1⟩
  | some n =>
    replace ho := Box.mk ho
    rintro e w1 ⟨rfl, hb1⟩
    go_wp2
    go_ret
    exact tells_some (by first | rfl | exact ho.out) hb1 rfl

set_option maxHeartbeats 1000000 in
theorem sumC_any (p : Nat) (a : Option Addr) (n c : Nat) (l : List Int) (w : World) (c1 : w.cell? ⟨p, 0, none⟩ = some (.slice a n c)) (h : IL w a n c l) : Calls Try.prog 38 #[.pointer (some ⟨p, 0, none⟩)] w (Tells (addedO l) w) := by
  have H := Box.mk h
  clear h
  go_enter Try.func38, Try.ntmps38
  go_wp2_with fail
  refine (added_any _ _ _ l _ H.out).mono ?_
  cases ho : addedO l with
  | none =>
    replace ho := Box.mk ho
    rintro e w1 ⟨rfl, hb1⟩
    go_wp2
    exact ⟨rfl, tells_none (by first | rfl | exact ho.out) hb1⟩
  | some n =>
    replace ho := Box.mk ho
    rintro e w1 ⟨rfl, hb1⟩
    go_wp2
    go_ret
    exact tells_some (by first | rfl | exact ho.out) hb1 rfl

set_option maxHeartbeats 1000000 in
theorem add_any (a b : Int) (w : World) (ha : I64 a) (hb : I64 b) : Calls Try.prog 14 #[.int .i64 a, .int .i64 b] w (Gives (toldV (addV a b)) w) := by
  have hmf : ∀ (fn : Fn) (first cap : Array Value) (w : World), (Instr.makeFunc fn first cap).run Try.prog w = .ok (.func fn first cap) w := fun _ _ _ _ => rfl
  have ha' := Box.mk ha
  have hb' := Box.mk hb
  clear ha hb
  go_enter Try.func14, Try.ntmps14
  go_wp2_with fail
  have c1 : ((w.alloc (.cells #[.int .i64 a] 2)).alloc (.cells #[.int .i64 b] 2)).cell? ⟨w.heap.size, 0, none⟩ = some (.int .i64 a) := by simp [go_sem]
  have c2 : ((w.alloc (.cells #[.int .i64 a] 2)).alloc (.cells #[.int .i64 b] 2)).cell? ⟨w.heap.size + 1, 0, none⟩ = some (.int .i64 b) := by simp [go_sem]
  have hb0 : Below w.heap.size w ((w.alloc (.cells #[.int .i64 a] 2)).alloc (.cells #[.int .i64 b] 2)) := ((Below.refl _ _).alloc (Nat.le_refl _) _).alloc (by simp) _
  have hsz : ((w.alloc (.cells #[.int .i64 a] 2)).alloc (.cells #[.int .i64 b] 2)).heap.size = w.heap.size + 2 := by simp
  generalize (w.alloc (.cells #[.int .i64 a] 2)).alloc (.cells #[.int .i64 b] 2) = w2 at *
  refine (told_any 34 _ (addV a b) w2 (fun _ => rfl) (fun w' hw => addC_any _ _ a b w' ha'.out hb'.out (by rw [hw.cell (p := ⟨w.heap.size, 0, none⟩) (by show w.heap.size < _; omega)]; exact c1) (by rw [hw.cell (p := ⟨w.heap.size + 1, 0, none⟩) (by show w.heap.size + 1 < _; omega)]; exact c2))).mono ?_
  rintro e w1 ⟨rfl, hb1⟩
  simp only [toldV]
  go_wp2
  refine bodyPost_ret (v := toldV (addV a b)) (by simp [results, Try.results14, go_sem, toldV]) rfl ?_
  exact gives rfl (Below.of hb1 (by omega) hb0)

set_option maxHeartbeats 1000000 in
theorem sub_any (a b : Int) (w : World) (ha : I64 a) (hb : I64 b) : Calls Try.prog 15 #[.int .i64 a, .int .i64 b] w (Gives (toldV (lessO a b)) w) := by
  have hmf : ∀ (fn : Fn) (first cap : Array Value) (w : World), (Instr.makeFunc fn first cap).run Try.prog w = .ok (.func fn first cap) w := fun _ _ _ _ => rfl
  have ha' := Box.mk ha
  have hb' := Box.mk hb
  clear ha hb
  go_enter Try.func15, Try.ntmps15
  go_wp2_with fail
  have c1 : ((w.alloc (.cells #[.int .i64 a] 2)).alloc (.cells #[.int .i64 b] 2)).cell? ⟨w.heap.size, 0, none⟩ = some (.int .i64 a) := by simp [go_sem]
  have c2 : ((w.alloc (.cells #[.int .i64 a] 2)).alloc (.cells #[.int .i64 b] 2)).cell? ⟨w.heap.size + 1, 0, none⟩ = some (.int .i64 b) := by simp [go_sem]
  have hb0 : Below w.heap.size w ((w.alloc (.cells #[.int .i64 a] 2)).alloc (.cells #[.int .i64 b] 2)) := ((Below.refl _ _).alloc (Nat.le_refl _) _).alloc (by simp) _
  have hsz : ((w.alloc (.cells #[.int .i64 a] 2)).alloc (.cells #[.int .i64 b] 2)).heap.size = w.heap.size + 2 := by simp
  generalize (w.alloc (.cells #[.int .i64 a] 2)).alloc (.cells #[.int .i64 b] 2) = w2 at *
  refine (told_any 36 _ (lessO a b) w2 (fun _ => rfl) (fun w' hw => subC_any _ _ a b w' ha'.out hb'.out (by rw [hw.cell (p := ⟨w.heap.size, 0, none⟩) (by show w.heap.size < _; omega)]; exact c1) (by rw [hw.cell (p := ⟨w.heap.size + 1, 0, none⟩) (by show w.heap.size + 1 < _; omega)]; exact c2))).mono ?_
  rintro e w1 ⟨rfl, hb1⟩
  simp only [toldV]
  go_wp2
  refine bodyPost_ret (v := toldV (lessO a b)) (by simp [results, Try.results15, go_sem, toldV]) rfl ?_
  exact gives rfl (Below.of hb1 (by omega) hb0)

set_option maxHeartbeats 1000000 in
theorem sum_any (a : Option Addr) (n c : Nat) (l : List Int) (w : World) (h : IL w a n c l) : Calls Try.prog 16 #[.slice a n c] w (Gives (toldV (addedO l)) w) := by
  have hmf : ∀ (fn : Fn) (first cap : Array Value) (w : World), (Instr.makeFunc fn first cap).run Try.prog w = .ok (.func fn first cap) w := fun _ _ _ _ => rfl
  have H := Box.mk h
  clear h
  go_enter Try.func16, Try.ntmps16
  go_wp2_with fail
  have c1 : (w.alloc (.cells #[.slice a n c] 22)).cell? ⟨w.heap.size, 0, none⟩ = some (.slice a n c) := by simp [go_sem]
  have hb0 : Below w.heap.size w (w.alloc (.cells #[.slice a n c] 22)) := (Below.refl _ _).alloc (Nat.le_refl _) _
  have hsz : (w.alloc (.cells #[.slice a n c] 22)).heap.size = w.heap.size + 1 := by simp
  generalize w.alloc (.cells #[.slice a n c] 22) = w2 at *
  refine (told_any 38 _ (addedO l) w2 (fun _ => rfl) (fun w' hw => sumC_any _ a n c l w' (by rw [hw.cell (p := ⟨w.heap.size, 0, none⟩) (by show w.heap.size < _; omega)]; exact c1) ((H.out.below hb0).below hw))).mono ?_
  rintro e w1 ⟨rfl, hb1⟩
  simp only [toldV]
  go_wp2
  refine bodyPost_ret (v := toldV (addedO l)) (by simp [results, Try.results16, go_sem, toldV]) rfl ?_
  exact gives rfl (Below.of hb1 (by omega) hb0)

end Go.Proofs.Ytghjpbmemogioaa
