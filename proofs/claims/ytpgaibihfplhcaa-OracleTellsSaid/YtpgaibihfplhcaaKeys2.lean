/- Keys as results, keys that are written out. -/
import Derived.Test.YtpgaibihfplhcaaKeys
import Derived.Test.YtpgaibihfplhcaaRes
namespace Go.Proofs.Ytpgaibihfplhcaa
open Go.RowKit
set_option linter.unusedVariables false
set_option linter.unusedSimpArgs false

/-- Keys that are nothing but a first byte, or two. -/
def key1 (a : UInt8) : Key := ⟨a :: List.replicate 31 0, by simp⟩
def key2 (a b : UInt8) : Key := ⟨a :: b :: List.replicate 30 0, by simp⟩
theorem key1_cells (a : UInt8) : (keyC (key1 a)).toArray = (Value.int .u8 a.toNat :: List.replicate 31 (.int .u8 0)).toArray := by unfold keyC key1; rfl
theorem key2_cells (a b : UInt8) : (keyC (key2 a b)).toArray = (Value.int .u8 a.toNat :: Value.int .u8 b.toNat :: List.replicate 30 (.int .u8 0)).toArray := by unfold keyC key2; rfl

theorem run_build1 (n : Int) (w : World) : (Instr.build 23 #[(0, .int .u8 n)]).run Try.prog w = .ok (.agg (Value.int .u8 n :: List.replicate 31 (.int .u8 0)).toArray) w := by kernel_rfl
theorem run_build2 (n m : Int) (w : World) : (Instr.build 23 #[(0, .int .u8 n), (1, .int .u8 m)]).run Try.prog w = .ok (.agg (Value.int .u8 n :: Value.int .u8 m :: List.replicate 30 (.int .u8 0)).toArray) w := by kernel_rfl

def slowBuild1 (P : Program) (t : TypeId) (u : Value) (w : World) : Result Next := (do pure (.value (← Instr.build t #[(0, u)])) : Sem Next).run P w
def build1To (P : Program) (t : TypeId) (w : World) (u : Value) : Result Next :=
  match u with
  | .int .u8 (.ofNat n) => if n < 256 then .ok (.value (.agg (keyC (key1 (UInt8.ofNat n))).toArray)) w else slowBuild1 P t u w
  | u => slowBuild1 P t u w
@[go_sem] theorem build1To_lit (P : Program) (t : TypeId) (w : World) (n : Nat) (h : n < 256) : build1To P t w (.int .u8 n) = .ok (.value (.agg (keyC (key1 (UInt8.ofNat n))).toArray)) w := by
  show (if n < 256 then _ else _) = _
  rw [if_pos h]
@[go_sem] theorem build1To_2 (P : Program) (t : TypeId) (w : World) : build1To P t w (.int .u8 2) = .ok (.value (.agg (keyC (key1 2)).toArray)) w := build1To_lit P t w 2 (by omega)
@[go_sem] theorem build1To_7 (P : Program) (t : TypeId) (w : World) : build1To P t w (.int .u8 7) = .ok (.value (.agg (keyC (key1 7)).toArray)) w := build1To_lit P t w 7 (by omega)
@[go_sem] theorem build1To_9 (P : Program) (t : TypeId) (w : World) : build1To P t w (.int .u8 9) = .ok (.value (.agg (keyC (key1 9)).toArray)) w := build1To_lit P t w 9 (by omega)
@[go_sem] theorem build1To_77 (P : Program) (t : TypeId) (w : World) : build1To P t w (.int .u8 77) = .ok (.value (.agg (keyC (key1 77)).toArray)) w := build1To_lit P t w 77 (by omega)
@[go_sem] theorem build1To_1 (P : Program) (t : TypeId) (w : World) : build1To P t w (.int .u8 1) = .ok (.value (.agg (keyC (key1 1)).toArray)) w := build1To_lit P t w 1 (by omega)
theorem build1_key (ρ : Operand → Value) (dst : Option Tmp) (x : Operand) (t : TypeId) (pos : String) (after : Array Edge) (guard : Option (Nat × Bool)) (w : World) :
    (execOp ρ ⟨dst, .build 23 #[(0, x)], t, pos, after, guard⟩).run Try.prog w = build1To Try.prog 23 w (ρ x) := by
  have hslow : (execOp ρ ⟨dst, .build 23 #[(0, x)], t, pos, after, guard⟩).run Try.prog w = slowBuild1 Try.prog 23 (ρ x) w := by simp [execOp, slowBuild1]
  unfold build1To
  split
  · rename_i n hv
    split
    · rename_i hn
      rw [hslow, hv, slowBuild1, Sem.run_bind, run_build1, key1_cells, show (UInt8.ofNat n).toNat = n from by simp; omega]
      rfl
    · rw [hslow]
  · rw [hslow]

def slowBuild2 (P : Program) (t : TypeId) (u v : Value) (w : World) : Result Next := (do pure (.value (← Instr.build t #[(0, u), (1, v)])) : Sem Next).run P w
def build2To (P : Program) (t : TypeId) (w : World) (u v : Value) : Result Next :=
  match u, v with
  | .int .u8 (.ofNat n), .int .u8 (.ofNat m) => if n < 256 ∧ m < 256 then .ok (.value (.agg (keyC (key2 (UInt8.ofNat n) (UInt8.ofNat m))).toArray)) w else slowBuild2 P t u v w
  | u, v => slowBuild2 P t u v w
@[go_sem] theorem build2To_lit (P : Program) (t : TypeId) (w : World) (n m : Nat) (h : n < 256) (h' : m < 256) : build2To P t w (.int .u8 n) (.int .u8 m) = .ok (.value (.agg (keyC (key2 (UInt8.ofNat n) (UInt8.ofNat m))).toArray)) w := by
  show (if n < 256 ∧ m < 256 then _ else _) = _
  rw [if_pos ⟨h, h'⟩]
@[go_sem] theorem build2To_77 (P : Program) (t : TypeId) (w : World) (m : Nat) (h' : m < 256) : build2To P t w (.int .u8 77) (.int .u8 m) = .ok (.value (.agg (keyC (key2 77 (UInt8.ofNat m))).toArray)) w := build2To_lit P t w 77 m (by omega) h'
theorem build2_key (ρ : Operand → Value) (dst : Option Tmp) (x y : Operand) (t : TypeId) (pos : String) (after : Array Edge) (guard : Option (Nat × Bool)) (w : World) :
    (execOp ρ ⟨dst, .build 23 #[(0, x), (1, y)], t, pos, after, guard⟩).run Try.prog w = build2To Try.prog 23 w (ρ x) (ρ y) := by
  have hslow : (execOp ρ ⟨dst, .build 23 #[(0, x), (1, y)], t, pos, after, guard⟩).run Try.prog w = slowBuild2 Try.prog 23 (ρ x) (ρ y) w := by simp [execOp, slowBuild2]
  unfold build2To
  split
  · rename_i n m hv hv'
    split
    · rename_i hn
      rw [hslow, hv, hv', slowBuild2, Sem.run_bind, run_build2, key2_cells, show (UInt8.ofNat n).toNat = n from by simp; omega, show (UInt8.ofNat m).toNat = m from by simp; omega]
      rfl
    · rw [hslow]
  · rw [hslow]

/-- 'append' of any keys to a slice of the call's own. -/
theorem app_k {w : World} {base : Nat} {u : Option Addr} {n0 c0 : Nat} {l : List Key} {ty : TypeId} (hown : KOwn w base (.slice u n0 c0) l) (hbase : base ≤ w.heap.size) (a : Option Addr) (n cap : Nat) (m : List Key) (hm : SL keyC 32 w a n cap m) (hlen : l.length + m.length ≤ 2000000) :
    ∃ u' n' c' w', appTo Try.prog 24 ty w (.slice u n0 c0) (.slice a n cap) = .ok (.value (.slice u' n' c')) w' ∧ KOwn w' base (.slice u' n' c') (l ++ m) ∧ Below base w w' ∧ w.heap.size ≤ w'.heap.size ∧ n' = l.length + m.length := by
  obtain rfl := hm.1
  by_cases hne : m = []
  · subst hne
    have hs := hown.sl'
    refine ⟨u, n0, c0, w, app_no_keys u n0 c0 hs.2.2.1 hs.2.2.2.2.1 a cap, by rw [List.append_nil]; exact hown, Below.refl _ _, Nat.le_refl _, hs.1⟩
  · obtain ⟨g, cap', w1, hap, hown', hgr, _⟩ := app_keys (ty := ty) hown hbase a cap m hm hne hlen
    have hb := grown_below hgr hown.ownBlock_le hbase
    exact ⟨_, _, _, w1, hap, hown', hb, hgr.size, rfl⟩

theorem app_k1 {w : World} {base : Nat} {u : Option Addr} {n0 c0 : Nat} {l : List Key} {ty : TypeId} (hown : KOwn w base (.slice u n0 c0) l) (hbase : base ≤ w.heap.size) (x : Key) (hlen : l.length + 1 ≤ 2000000) :
    ∃ u' n' c' w', appTo Try.prog 24 ty (w.alloc (.cells (keyC x).toArray 23)) (.slice u n0 c0) (.slice (some ⟨w.heap.size, 0, none⟩) 1 1) = .ok (.value (.slice u' n' c')) w' ∧ KOwn w' base (.slice u' n' c') (l ++ [x]) ∧ Below base w w' ∧ w.heap.size ≤ w'.heap.size ∧ n' = l.length + 1 := by
  have hB : Below w.heap.size w (w.alloc (.cells (keyC x).toArray 23)) := (Below.refl _ _).alloc (Nat.le_refl _) _
  have hnew : SL keyC 32 (w.alloc (.cells (keyC x).toArray 23)) (some ⟨w.heap.size, 0, none⟩) 1 1 [x] := by
    rw [← rows_one keyC x]
    exact SL.new keyC_length _ [x] _ _ rfl (by unfold maxLen; simp)
  obtain ⟨u', n', c', w', h1, h2, h3, h4, h5⟩ := app_k (ty := ty) (hown.below hB) (Nat.le_trans hbase hB.size) _ _ _ [x] hnew (by simpa using hlen)
  exact ⟨u', n', c', w', h1, h2, Below.trans (hB.mono hbase) h3, Nat.le_trans hB.size h4, h5⟩

end Go.Proofs.Ytpgaibihfplhcaa
