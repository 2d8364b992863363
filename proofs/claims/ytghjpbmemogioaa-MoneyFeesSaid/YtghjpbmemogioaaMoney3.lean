/- The contracts of package money: told. -/
import Derived.Test.YtghjpbmemogioaaMoney2
namespace Go.Proofs.Ytghjpbmemogioaa
open Go.RowKit
set_option linter.unusedVariables false
set_option linter.unusedSimpArgs false

theorem catch_wrong (p q : Nat) (x y : Int) (older : List PanicEntry) (w : World) (hp : w.cell? ⟨p, 0, none⟩ = some (.int .i64 x)) (hq : w.cell? ⟨q, 0, none⟩ = some (.int .i64 y)) (fp : w.frozen? ⟨p, 0, none⟩ = false) (fq : w.frozen? ⟨q, 0, none⟩ = false) (hpq : p ≠ q) (bp : p < w.heap.size) (bq : q < w.heap.size) :
    CallsD Try.prog 46 #[.pointer (some ⟨p, 0, none⟩), .pointer (some ⟨q, 0, none⟩)] (.panicking ({ v := .iface 69 (.agg #[]), recovered := false } :: older)) w fun e u' w' =>
      e = .returned (.tuple #[]) ∧ u' = .panicking ({ v := .iface 69 (.agg #[]), recovered := true } :: older) ∧ w' = ((w.setCell ⟨p, 0, none⟩ (.int .i64 0)).setCell ⟨q, 0, none⟩ (.int .i64 20)).alloc (.cells #[] 69) := by
  refine callsD_of_wpS Try.func46 rfl fun c₀ cs hu => ?_
  apply wpS_seq
  apply wpS_region
  simp [wpOpsS, go_sem, recoverD, hu, Try.ntmps46, Exit.thenS]
  refine wpS_of_wp ?_
  rw [show (#[Value.pointer (some ⟨p, 0, none⟩), Value.pointer (some ⟨q, 0, none⟩)] ++ (Array.replicate 9 undef).setIfInBounds 3 (Value.iface 69 (.agg #[]))) = #[Value.pointer (some ⟨p, 0, none⟩), Value.pointer (some ⟨q, 0, none⟩), undef, undef, undef, Value.iface 69 (.agg #[]), undef, undef, undef, undef, undef] from rfl]
  have hta : ∀ w : World, (Instr.typeAssert (.iface 69 (.agg #[])) 20 69 true).run Try.prog w = .ok (.tuple #[.agg #[], .bool true]) w := fun _ => by kernel_rfl
  go_wp2
  cases c₀
  simp_all [bodyPostS, results, Try.results46]

theorem catch_idle (p q : Nat) (w : World) :
    CallsD Try.prog 46 #[.pointer (some ⟨p, 0, none⟩), .pointer (some ⟨q, 0, none⟩)] .returning w fun e u' w' => e = .returned (.tuple #[]) ∧ u' = .returning ∧ Below w.heap.size w w' := by
  refine callsD_of_wpS Try.func46 rfl fun c₀ cs hu => ?_
  apply wpS_seq
  apply wpS_region
  simp [wpOpsS, go_sem, recoverD, hu, Try.ntmps46, Exit.thenS]
  refine wpS_of_wp ?_
  rw [show (#[Value.pointer (some ⟨p, 0, none⟩), Value.pointer (some ⟨q, 0, none⟩)] ++ (Array.replicate 9 undef).setIfInBounds 3 Value.nilIface) = #[Value.pointer (some ⟨p, 0, none⟩), Value.pointer (some ⟨q, 0, none⟩), undef, undef, undef, Value.nilIface, undef, undef, undef, undef, undef] from rfl]
  go_wp2
  cases c₀
  simp_all [bodyPostS, results, Try.results46]
  exact Below.refl _ _

/-- What a sum tells: the number, or nothing and the errno. -/
@[irreducible] def valN (o : Option Int) : Int := o.getD 0
@[irreducible] def errN (o : Option Int) : Int := if o.isSome then 0 else 20
theorem valN_some (n : Int) : valN (some n) = n := by unfold valN; rfl
theorem valN_none : valN none = 0 := by unfold valN; rfl
theorem errN_some (n : Int) : errN (some n) = 0 := by unfold errN; rfl
theorem errN_none : errN none = 20 := by unfold errN; rfl
def toldV (o : Option Int) : Value := .tuple #[.int .i64 (valN o), .int .i64 (errN o)]

set_option maxHeartbeats 1000000 in
theorem told_any (f : Nat) (cap : Array Value) (o : Option Int) (W : World) (hcf : ∀ w : World, (callFunc f cap).run Try.prog w = .ok (.enter f cap) w) (h : ∀ w, Below W.heap.size W w → Calls Try.prog f cap w (Tells o w)) : Calls Try.prog 33 #[.func (.func f) #[] cap] W (Gives (toldV o) W) := by
  have hmf : ∀ (fn : Fn) (first cap : Array Value) (w : World), (Instr.makeFunc fn first cap).run Try.prog w = .ok (.func fn first cap) w := fun _ _ _ _ => rfl
  have hb0 : Below W.heap.size W ((W.alloc (.cells #[.int .i64 0] 2)).alloc (.cells #[.int .i64 0] 24)) := ((Below.refl _ _).alloc (Nat.le_refl _) _).alloc (by simp) _
  have H := Box.mk h
  clear h
  go_enter_defers Try.func33, Try.ntmps33
  go_wp2_with fail
  refine (H.out _ hb0).mono ?_
  have c1 : ((W.alloc (.cells #[.int .i64 0] 2)).alloc (.cells #[.int .i64 0] 24)).cell? ⟨W.heap.size, 0, none⟩ = some (.int .i64 0) := by simp [go_sem]
  have c2 : ((W.alloc (.cells #[.int .i64 0] 2)).alloc (.cells #[.int .i64 0] 24)).cell? ⟨W.heap.size + 1, 0, none⟩ = some (.int .i64 0) := by simp [go_sem]
  have f1 : ((W.alloc (.cells #[.int .i64 0] 2)).alloc (.cells #[.int .i64 0] 24)).frozen? ⟨W.heap.size, 0, none⟩ = false := by simp [go_sem]
  have f2 : ((W.alloc (.cells #[.int .i64 0] 2)).alloc (.cells #[.int .i64 0] 24)).frozen? ⟨W.heap.size + 1, 0, none⟩ = false := by simp [go_sem]
  obtain ⟨w2, hw2⟩ : ∃ w2, w2 = (W.alloc (.cells #[.int .i64 0] 2)).alloc (.cells #[.int .i64 0] 24) := ⟨_, rfl⟩
  have hsz : w2.heap.size = W.heap.size + 1 + 1 := by rw [hw2]; simp
  rw [← hw2] at c1 c2 f1 f2 hb0 ⊢
  replace hw2 := Box.mk hw2
  cases o with
  | none =>
    rintro e w3 ⟨rfl, hb3⟩
    have d1 : w3.cell? ⟨W.heap.size, 0, none⟩ = some (.int .i64 0) := by rw [hb3.cell (p := ⟨W.heap.size, 0, none⟩) (by show W.heap.size < _; omega)]; exact c1
    have d2 : w3.cell? ⟨W.heap.size + 1, 0, none⟩ = some (.int .i64 0) := by rw [hb3.cell (p := ⟨W.heap.size + 1, 0, none⟩) (by show W.heap.size + 1 < _; omega)]; exact c2
    have g1 : w3.frozen? ⟨W.heap.size, 0, none⟩ = false := by rw [hb3.frozen (p := ⟨W.heap.size, 0, none⟩) (by show W.heap.size < _; omega)]; exact f1
    have g2 : w3.frozen? ⟨W.heap.size + 1, 0, none⟩ = false := by rw [hb3.frozen (p := ⟨W.heap.size + 1, 0, none⟩) (by show W.heap.size + 1 < _; omega)]; exact f2
    have hbw := hb0.trans (hb3.mono (by omega))
    have hs3 := hb3.size
    go_wp2
    refine leaves_cons (f := 46) (args := #[.pointer (some ⟨W.heap.size, 0, none⟩), .pointer (some ⟨W.heap.size + 1, 0, none⟩)]) (by simp) (by simp [go_sem]) ?_
    refine (catch_wrong W.heap.size (W.heap.size + 1) 0 0 [] _ d1 d2 g1 g2 (by omega) (by omega) (by omega)).mono ?_
    rintro e u' w'' ⟨rfl, rfl, rfl⟩
    have k1 : (((w3.setCell ⟨W.heap.size, 0, none⟩ (.int .i64 0)).setCell ⟨W.heap.size + 1, 0, none⟩ (.int .i64 20)).alloc (.cells #[] 69)).cell? ⟨W.heap.size, 0, none⟩ = some (.int .i64 0) := by
      rw [((Below.refl _ _).alloc (Nat.le_refl _) _ : Below _ _ _).cell (p := ⟨W.heap.size, 0, none⟩) (by simp [World.setCell]; omega)]
      simp [go_sem, d1, d2]
    have k2 : (((w3.setCell ⟨W.heap.size, 0, none⟩ (.int .i64 0)).setCell ⟨W.heap.size + 1, 0, none⟩ (.int .i64 20)).alloc (.cells #[] 69)).cell? ⟨W.heap.size + 1, 0, none⟩ = some (.int .i64 20) := by
      rw [((Below.refl _ _).alloc (Nat.le_refl _) _ : Below _ _ _).cell (p := ⟨W.heap.size + 1, 0, none⟩) (by simp [World.setCell]; omega)]
      simp [go_sem, d1, d2]
    have hbf : Below W.heap.size W (((w3.setCell ⟨W.heap.size, 0, none⟩ (.int .i64 0)).setCell ⟨W.heap.size + 1, 0, none⟩ (.int .i64 20)).alloc (.cells #[] 69)) := (Below.setCell (Below.setCell hbw (Nat.le_refl _) _) (Nat.le_succ _) _).alloc (by simp [World.setCell]; omega) _
    generalize ((w3.setCell ⟨W.heap.size, 0, none⟩ (.int .i64 0)).setCell ⟨W.heap.size + 1, 0, none⟩ (.int .i64 20)).alloc (.cells #[] 69) = w4 at *
    simp [Leaves, settle, results, Try.results33, go_sem, k1, k2]
    exact gives (by unfold toldV; rw [valN_none, errN_none]) hbf
  | some n =>
    rintro e w3 ⟨rfl, hb3⟩
    have d1 : w3.cell? ⟨W.heap.size, 0, none⟩ = some (.int .i64 0) := by rw [hb3.cell (p := ⟨W.heap.size, 0, none⟩) (by show W.heap.size < _; omega)]; exact c1
    have d2 : w3.cell? ⟨W.heap.size + 1, 0, none⟩ = some (.int .i64 0) := by rw [hb3.cell (p := ⟨W.heap.size + 1, 0, none⟩) (by show W.heap.size + 1 < _; omega)]; exact c2
    have g1 : w3.frozen? ⟨W.heap.size, 0, none⟩ = false := by rw [hb3.frozen (p := ⟨W.heap.size, 0, none⟩) (by show W.heap.size < _; omega)]; exact f1
    have g2 : w3.frozen? ⟨W.heap.size + 1, 0, none⟩ = false := by rw [hb3.frozen (p := ⟨W.heap.size + 1, 0, none⟩) (by show W.heap.size + 1 < _; omega)]; exact f2
    have hbw := hb0.trans (hb3.mono (by omega))
    have hs3 := hb3.size
    have e1 : W.heap.size < w3.heap.size := by omega
    have e2 : W.heap.size + 1 < w3.heap.size := by omega
    go_wp2
    refine leaves_cons (f := 46) (args := #[.pointer (some ⟨W.heap.size, 0, none⟩), .pointer (some ⟨W.heap.size + 1, 0, none⟩)]) (by simp) (by simp [go_sem]) ?_
    refine (catch_idle W.heap.size (W.heap.size + 1) _).mono ?_
    rintro e u' w'' ⟨rfl, rfl, hb4⟩
    have k1 : ((w3.setCell ⟨W.heap.size, 0, none⟩ (.int .i64 n)).setCell ⟨W.heap.size + 1, 0, none⟩ (.int .i64 0)).cell? ⟨W.heap.size, 0, none⟩ = some (.int .i64 n) := by simp [go_sem, d1, d2]
    have k2 : ((w3.setCell ⟨W.heap.size, 0, none⟩ (.int .i64 n)).setCell ⟨W.heap.size + 1, 0, none⟩ (.int .i64 0)).cell? ⟨W.heap.size + 1, 0, none⟩ = some (.int .i64 0) := by simp [go_sem, d1, d2]
    have hbf : Below W.heap.size W ((w3.setCell ⟨W.heap.size, 0, none⟩ (.int .i64 n)).setCell ⟨W.heap.size + 1, 0, none⟩ (.int .i64 0)) := Below.setCell (Below.setCell hbw (Nat.le_refl _) _) (Nat.le_succ _) _
    have hszf : ((w3.setCell ⟨W.heap.size, 0, none⟩ (.int .i64 n)).setCell ⟨W.heap.size + 1, 0, none⟩ (.int .i64 0)).heap.size = w3.heap.size := by simp [World.setCell]
    generalize (w3.setCell ⟨W.heap.size, 0, none⟩ (.int .i64 n)).setCell ⟨W.heap.size + 1, 0, none⟩ (.int .i64 0) = w4 at *
    have j1 : w''.cell? ⟨W.heap.size, 0, none⟩ = some (.int .i64 n) := by rw [hb4.cell (p := ⟨W.heap.size, 0, none⟩) (by show W.heap.size < _; omega)]; exact k1
    have j2 : w''.cell? ⟨W.heap.size + 1, 0, none⟩ = some (.int .i64 0) := by rw [hb4.cell (p := ⟨W.heap.size + 1, 0, none⟩) (by show W.heap.size + 1 < _; omega)]; exact k2
    simp [Leaves, settle, results, Try.results33, go_sem, j1, j2]
    exact gives (by unfold toldV; rw [valN_some, errN_some]) (hbf.trans (hb4.mono (by omega)))

end Go.Proofs.Ytghjpbmemogioaa
