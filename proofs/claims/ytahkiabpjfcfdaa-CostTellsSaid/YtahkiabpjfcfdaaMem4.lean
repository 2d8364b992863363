/- make, copy, and stores into a block of rows that has just been laid. No program. -/
import Derived.Test.YtahkiabpjfcfdaaMem3
namespace Go.Proofs.Ytahkiabpjfcfdaa
set_option maxRecDepth 100000
open Go.RowKit

section
variable {α : Type}
theorem range_add' (m n : Nat) : List.range (m + n) = List.range m ++ (List.range n).map (m + ·) := by
  rw [List.range_add]
theorem made_rows (f : α → List Value) (n : Nat) (z : α) (hf : (f z).length = n) (k : Nat) :
    (List.range (k * n)).map (fun j => (f z).toArray[j % (f z).toArray.size]!) = rows f (List.replicate k z) := by
  induction k with
  | zero => simp [rows_nil]
  | succ k ih =>
    rw [Nat.succ_mul, range_add', List.map_append, ih, List.replicate_succ', rows_append, rows_one]
    congr 1
    refine List.ext_getElem? fun j => ?_
    simp only [List.map_map, List.getElem?_map]
    by_cases hj : j < n
    · rw [List.getElem?_range hj]
      simp only [Option.map_some, Function.comp, List.size_toArray, hf]
      rw [show (k * n + j) % n = j from by rw [Nat.add_comm, Nat.add_mul_mod_self_right, Nat.mod_eq_of_lt hj]]
      rw [List.getElem?_eq_getElem (by omega)]
      simp [hf, hj]
    · rw [List.getElem?_eq_none (by simp; omega), List.getElem?_eq_none (by omega)]; rfl

theorem run_make {P : Program} {t e : TypeId} {n bytes : Nat} {i : TypeInfo} {f : α → List Value} {z : α} (hu : P.underlying t = some (.slice e)) (hi : P.info? e = some i) (hs : i.size = n) (hb : i.bytes = bytes) (hz : i.zero = some (.agg (f z).toArray)) (hf : (f z).length = n)
    (w : World) (k : Int) (k0 : 0 ≤ k) (k1 : k ≤ 2000000) (kb : bytes ≤ 1000) (h0 : 0 < n) :
    (Instr.makeSlice t (.int .i64 k) (.int .i64 k)).run P w = .ok (.slice (some ⟨w.heap.size, 0, none⟩) k.toNat k.toNat) (w.alloc (.cells (rows f (List.replicate k.toNat z)).toArray e)) := by
  obtain ⟨m, rfl⟩ := Int.eq_ofNat_of_zero_le k0
  have hw : IntKind.i64.wrap (m : Int) = m := IntWalk.i64_in _ (by omega)
  have hmul : bytes * m ≤ 1000 * 2000000 := Nat.mul_le_mul kb (by omega)
  have hc2 : decide ((bytes : Int) * (m : Int) > 2 ^ 48) = false := by
    rw [decide_eq_false_iff_not, ← Int.natCast_mul]; omega
  have hc1 : decide ((m : Int) < 0) = false := by rw [decide_eq_false_iff_not]; omega
  have hroom : (askRoom (m * bytes)).run P w = .ok () w := by
    unfold askRoom
    rw [if_neg (by unfold roomBytes; rw [Nat.mul_comm]; omega)]; rfl
  have hzv : (zeroValue e).run P w = .ok (.agg (f z).toArray) w := by simp [zeroValue, typeInfo, hi, hz]
  have h1 : (typeInfo e).run P w = .ok i w := by simp [typeInfo, hi]
  have h2 : (sizeOf e).run P w = .ok n w := by simp [sizeOf, typeInfo, hi, hs]
  simp only [Instr.makeSlice, Sem.run_bind, run_underlying hu, Result.andThen_ok, asInt, asIntOf, Sem.run_pure, h1, hb, hw]
  have hcc : ¬ ((decide ((m : Int) < 0) || decide ((bytes : Int) * (m : Int) > 2 ^ 48) || decide ((m : Int) < 0) || decide ((m : Int) > (m : Int))) = true) := by
    rw [hc1, hc2]; simp
  rw [if_neg hcc]
  simp only [Sem.run_bind, hroom, Int.toNat_natCast, Result.andThen_ok, h2]
  by_cases h : m * n = 0
  · have hm : m = 0 := by rcases Nat.mul_eq_zero.1 h with h | h <;> omega
    subst hm
    rw [if_pos h]
    simp only [List.replicate_zero, rows_nil, Nat.zero_mul, Sem.run_bind, Sem.run_pure, Result.andThen_ok, newRow, newObj]
    have : (Array.range 0).map ((#[] : Array Value)[· % (#[] : Array Value).size]!) = #[] := by simp
    rw [this]
    rfl
  · rw [if_neg h]
    have hcells : (Array.range (m * n)).map (fun j => (f z).toArray[j % (f z).toArray.size]!) = (rows f (List.replicate m z)).toArray := by
      rw [← made_rows f n z hf m]
      apply Array.ext'
      simp
    simp only [Sem.run_bind, hzv, Result.andThen_ok, Sem.run_pure, Value.cells, newRow, newObj, hcells]
    rfl

/-! ### The operations -/
def slowMake (P : Program) (t : TypeId) (u v : Value) (w : World) : Result Next := (do pure (.value (← Instr.makeSlice t u v)) : Sem Next).run P w
def makeTo (P : Program) (t e : TypeId) (cells : Nat → List Value) (w : World) (u v : Value) : Result Next :=
  match u, v with
  | .int .i64 k, .int .i64 k' => if k = k' ∧ 0 ≤ k ∧ k ≤ 2000000 then .ok (.value (.slice (some ⟨w.heap.size, 0, none⟩) k.toNat k.toNat)) (w.alloc (.cells (cells k.toNat).toArray e)) else slowMake P t u v w
  | u, v => slowMake P t u v w
@[go_sem] theorem makeTo_ok (P : Program) (t e : TypeId) (cells : Nat → List Value) (w : World) (k : Int) :
    makeTo P t e cells w (.int .i64 k) (.int .i64 k) = if 0 ≤ k ∧ k ≤ 2000000 then .ok (.value (.slice (some ⟨w.heap.size, 0, none⟩) k.toNat k.toNat)) (w.alloc (.cells (cells k.toNat).toArray e)) else slowMake P t (.int .i64 k) (.int .i64 k) w := by
  simp only [makeTo, true_and]
theorem exec_make {P : Program} {t e : TypeId} {n bytes : Nat} {i : TypeInfo} {f : α → List Value} {z : α} (hu : P.underlying t = some (.slice e)) (hi : P.info? e = some i) (hs : i.size = n) (hb : i.bytes = bytes) (hz : i.zero = some (.agg (f z).toArray)) (hf : (f z).length = n)
    (kb : bytes ≤ 1000) (h0 : 0 < n) (ρ : Operand → Value) (dst : Option Tmp) (x y : Operand) (t' : TypeId) (pos : String) (after : Array Edge) (guard : Option (Nat × Bool)) (w : World) :
    (execOp ρ ⟨dst, .makeSlice t x y, t', pos, after, guard⟩).run P w = makeTo P t e (fun k => rows f (List.replicate k z)) w (ρ x) (ρ y) := by
  have hslow : (execOp ρ ⟨dst, .makeSlice t x y, t', pos, after, guard⟩).run P w = slowMake P t (ρ x) (ρ y) w := rfl
  rw [hslow]
  unfold makeTo
  split
  · rename_i k k' hu' hv'
    split
    · rename_i hk
      obtain ⟨rfl, hk0, hk1⟩ := hk
      rw [hu', hv']
      simp only [slowMake, Sem.run_bind, run_make hu hi hs hb hz hf w k hk0 hk1 kb h0]
      rfl
    · rfl
  · rfl

def slowCopy (P : Program) (t ty : TypeId) (u v : Value) (w : World) : Result Next := (do pure (.value (← Builtin.copy_ #[t, t] ty #[u, v])) : Sem Next).run P w
def copyGot (slow : Result Next) (w : World) (b o sl N : Nat) : Option (List Value) → Bool → Result Next
  | some cs, true => if isRow N cs then .ok (.value (.int .i64 sl)) (w.setCells b o cs) else slow
  | _, _ => slow
def copyTo (P : Program) (t ty : TypeId) (n : Nat) (w : World) (u v : Value) : Result Next :=
  match u, v with
  | .slice (some ⟨b, o, none⟩) dl _, .slice a sl _ =>
    if sl = 0 then .ok (.value (.int .i64 0)) w
    else match a with
      | some ⟨b', o', none⟩ => if sl ≤ dl then copyGot (slowCopy P t ty u v w) w b o sl (sl * n) (rowOf w b' o' (sl * n)) (canPut w b o (sl * n)) else slowCopy P t ty u v w
      | _ => slowCopy P t ty u v w
  | _, _ => slowCopy P t ty u v w
@[go_sem] theorem copyTo_zero (P : Program) (t ty : TypeId) (n : Nat) (w : World) (b o dl dc : Nat) (a : Option Addr) (sc : Nat) :
    copyTo P t ty n w (.slice (some ⟨b, o, none⟩) dl dc) (.slice a 0 sc) = .ok (.value (.int .i64 0)) w := by simp only [copyTo, if_true]
@[go_sem] theorem copyTo_two (P : Program) (t ty : TypeId) (n : Nat) (w : World) (b o dl dc b' o' sl sc : Nat) :
    copyTo P t ty n w (.slice (some ⟨b, o, none⟩) dl dc) (.slice (some ⟨b', o', none⟩) sl sc) = if sl = 0 then .ok (.value (.int .i64 0)) w else if sl ≤ dl then
      copyGot (slowCopy P t ty (.slice (some ⟨b, o, none⟩) dl dc) (.slice (some ⟨b', o', none⟩) sl sc) w) w b o sl (sl * n) (rowOf w b' o' (sl * n)) (canPut w b o (sl * n)) else slowCopy P t ty (.slice (some ⟨b, o, none⟩) dl dc) (.slice (some ⟨b', o', none⟩) sl sc) w := by
  simp only [copyTo]
@[go_sem] theorem copyGot_some (slow : Result Next) (w : World) (b o sl N : Nat) (cs : List Value) : copyGot slow w b o sl N (some cs) true = if isRow N cs = true then .ok (.value (.int .i64 sl)) (w.setCells b o cs) else slow := rfl
theorem copyTo_ok (P : Program) (t ty : TypeId) (n : Nat) (w : World) (b o dl dc b' o' sl sc : Nat) (cs : List Value) (h0 : sl ≠ 0) (hl : sl ≤ dl) (hr : rowOf w b' o' (sl * n) = some cs) (hp : canPut w b o (sl * n) = true) (hrow : isRow (sl * n) cs = true) :
    copyTo P t ty n w (.slice (some ⟨b, o, none⟩) dl dc) (.slice (some ⟨b', o', none⟩) sl sc) = .ok (.value (.int .i64 sl)) (w.setCells b o cs) := by
  simp only [copyTo]; rw [if_neg h0, if_pos hl, hr, hp]; simp only [copyGot]; rw [if_pos hrow]

theorem exec_copy {P : Program} {t e ty : TypeId} {n : Nat} (hu : P.underlying t = some (.slice e)) (hs : ∀ w, (sizeOf e).run P w = .ok n w)
    (ρ : Operand → Value) (dst : Option Tmp) (x y : Operand) (pos : String) (after : Array Edge) (guard : Option (Nat × Bool)) (w : World) :
    (execOp ρ ⟨dst, .call { callee := .builtin .copy, args := #[x, y], argTypes := #[t, t] }, ty, pos, after, guard⟩).run P w = copyTo P t ty n w (ρ x) (ρ y) := by
  have hslow : (execOp ρ ⟨dst, .call { callee := .builtin .copy, args := #[x, y], argTypes := #[t, t] }, ty, pos, after, guard⟩).run P w = slowCopy P t ty (ρ x) (ρ y) w := by
    simp [execOp, resolve, invoke, builtin, slowCopy]
  rw [hslow]
  unfold copyTo
  split
  · rename_i b o dl dc a sl sc hu' hv'
    split
    · rename_i h0
      subst h0
      rw [hu', hv']
      simp only [slowCopy, Builtin.copy_, Sem.run_bind]
      cases a with
      | none => simp [run_underlying hu, hs, Builtin.lenOf, Builtin.firstCells, storeCells, goInt]
      | some a => simp [run_underlying hu, hs, Builtin.lenOf, Builtin.firstCells, storeCells, goInt, loadCells, loadCellsFrom]
    · rename_i h0
      split
      · rename_i b' o'
        split
        · rename_i hle
          cases hr : rowOf w b' o' (sl * n) with
          | none => simp [copyGot]
          | some cs =>
            cases hp : canPut w b o (sl * n) with
            | false => simp [copyGot]
            | true =>
              simp only [copyGot]
              split
              · rename_i hrow
                simp only [isRow, Bool.and_eq_true, decide_eq_true_eq] at hrow
                rw [hu', hv']
                have hl : (loadCells ⟨b', o', none⟩ (sl * n)).run P w = .ok cs.toArray w := by
                  have := run_loadCells_list (P := P) w ⟨b', o', none⟩ cs (fun j v hv => by rw [Addr.add_mid]; exact (rowOf_some.1 hr).2 j v hv)
                  rwa [hrow.1] at this
                have ht := canPut_there.1 hp
                have hst := run_storeCells_cells (P := P) b o cs 0 w (fun j hj => by simpa using (ht j (by omega)).1) (fun j hj => by simpa using (ht j (by omega)).2)
                  (fun v hv => (List.all_eq_true.1 hrow.2) v hv)
                simp only [slowCopy, Builtin.copy_, Sem.run_bind]
                have hmin : Nat.min sl dl = sl := Nat.min_eq_left hle
                simp [run_underlying hu, hs, Builtin.lenOf, Builtin.firstCells, goInt, hmin, hl, hst]
              · rfl
        · rfl
      · rfl
  · rfl
end

/-- The slice lies in no block below B. -/
def Fresh (B : Nat) (a : Option Addr) : Prop := ∀ x, a = some x → B ≤ x.block
theorem fresh_some {B g o : Nat} (h : B ≤ g) : Fresh B (some ⟨g, o, none⟩) := fun x hx => by injection hx with hx; subst hx; exact h
theorem Fresh.ne {B b : Nat} {a : Option Addr} (h : Fresh B a) (hb : b < B) : ∀ x, a = some x → x.block ≠ b := fun x hx e => by have := h x hx; omega
theorem Fresh.mono {B B' : Nat} {a : Option Addr} (h : Fresh B a) (hb : B' ≤ B) : Fresh B' a := fun x hx => Nat.le_trans hb (h x hx)
theorem Fresh.map {B : Nat} {a : Option Addr} (h : Fresh B a) (m : Nat) (c : Addr → Prop) [DecidablePred c] : Fresh B (a.map fun x => if c x then x else x.add m) := by
  intro x hx
  cases a with
  | none => simp at hx
  | some y =>
    simp only [Option.map_some, Option.some.injEq] at hx
    subst hx
    have := h y rfl
    split
    · exact this
    · unfold Addr.add; split <;> exact this

/-! ### Stores into a block of rows that has just been laid -/
theorem setCells_mid (w : World) (pre mid post cs : List Value) (t : TypeId) (fr : Nat × Nat) (b o : Nat) (hb : b = w.heap.size) (ho : o = pre.length) (h : mid.length = cs.length) :
    (w.alloc (.cells (pre ++ mid ++ post).toArray t fr)).setCells b o cs = w.alloc (.cells (pre ++ cs ++ post).toArray t fr) := by
  subst hb ho
  rw [setCells_append w.heap.size cs _ pre mid post t fr h (heap_alloc_new w _)]
  simp only [World.alloc]
  congr 1
  apply Array.ext_getElem?
  intro i
  simp only [Array.set!_eq_setIfInBounds, Array.getElem?_setIfInBounds, Array.getElem?_push, Array.size_push]
  by_cases e : w.heap.size = i
  · simp [e]
  · by_cases e2 : i = w.heap.size
    · omega
    · simp [e, e2]
section
variable {α : Type} {f : α → List Value} {n : Nat}
theorem setCells_rows_prefix (hf : ∀ x, (f x).length = n) (w : World) (ds l : List α) (t : TypeId) (fr : Nat × Nat) (b : Nat) (hb : b = w.heap.size) (h : l.length ≤ ds.length) :
    (w.alloc (.cells (rows f ds).toArray t fr)).setCells b 0 (rows f l) = w.alloc (.cells (rows f (l ++ ds.drop l.length)).toArray t fr) := by
  have := setCells_mid w [] (rows f (ds.take l.length)) (rows f (ds.drop l.length)) (rows f l) t fr b 0 hb rfl (by rw [rows_length hf, rows_length hf, List.length_take, Nat.min_eq_left h])
  rw [List.nil_append, List.nil_append, ← rows_append, ← rows_append, List.take_append_drop] at this
  exact this
theorem setCells_rows_elem (hf : ∀ x, (f x).length = n) (w : World) (ds : List α) (x : α) (t : TypeId) (fr : Nat × Nat) (b o i : Nat) (hb : b = w.heap.size) (ho : o = i * n) (h : i < ds.length) :
    (w.alloc (.cells (rows f ds).toArray t fr)).setCells b o (f x) = w.alloc (.cells (rows f (ds.set i x)).toArray t fr) := by
  have hsplit : ds = ds.take i ++ [ds[i]] ++ ds.drop (i + 1) := by
    rw [List.append_assoc, List.singleton_append, ← List.drop_eq_getElem_cons h, List.take_append_drop]
  have hset : ds.set i x = ds.take i ++ [x] ++ ds.drop (i + 1) := by
    rw [List.set_eq_take_append_cons_drop, if_pos h]; simp
  have := setCells_mid w (rows f (ds.take i)) (f ds[i]) (rows f (ds.drop (i + 1))) (f x) t fr b o hb (by rw [rows_length hf, List.length_take, Nat.min_eq_left (by omega), ho]) (by rw [hf, hf])
  rw [← rows_one f ds[i], ← rows_append, ← rows_append, ← hsplit] at this
  rw [this, hset, rows_append, rows_append, rows_one]
theorem rowOf_rows_new (hf : ∀ x, (f x).length = n) (w : World) (ds : List α) (t : TypeId) (b : Nat) (hb : b = w.heap.size) (i : Nat) (x : α) (hx : ds[i]? = some x) :
    rowOf (w.alloc (.cells (rows f ds).toArray t)) b (i * n) n = some (f x) := by
  subst hb
  have hlen := rows_length hf ds
  have h := rowOf_alloc_new w (rows f ds) t (0, 0) w.heap.size (ds.length * n) rfl hlen
  have hi : i < ds.length := (List.getElem?_eq_some_iff.1 hx).1
  have := rowOf_sub h (i * n) n (by have := Nat.mul_le_mul_right n hi; rw [Nat.succ_mul] at this; exact this)
  rwa [rows_elem hf hx, Nat.zero_add] at this
theorem SL.new (hf : ∀ x, (f x).length = n) (w : World) (l : List α) (t : TypeId) (b : Nat) (hb : b = w.heap.size) (hm : l.length ≤ maxLen) : SL f n (w.alloc (.cells (rows f l).toArray t)) (some ⟨b, 0, none⟩) l.length l.length l := by
  subst hb; exact SL.block hf (heap_alloc_new w _) hm
theorem SL.alloc {w : World} {a : Option Addr} {len cap : Nat} {l : List α} (h : SL f n w a len cap l) (ob : Obj) : SL f n (w.alloc ob) a len cap l := h.below ((Below.refl _ _).alloc (Nat.le_refl _) ob)
theorem SL.setCell {w : World} {a : Option Addr} {len cap : Nat} {l : List α} (h : SL f n w a len cap l) (b' o' : Nat) (v : Value) (hb : ∀ x, a = some x → x.block ≠ b') : SL f n (w.setCell ⟨b', o', none⟩ v) a len cap l := by
  obtain ⟨h1, h2, h3, h4, h5⟩ := h
  refine ⟨h1, h2, h3, h4, fun hne => ?_⟩
  obtain ⟨b, o, e, hb', hr⟩ := h5 hne
  exact ⟨b, o, e, by simpa [World.setCell] using hb', by rw [rowOf_setCell_other _ _ _ _ _ _ _ (hb _ e)]; exact hr⟩
theorem SL.drew {w : World} {a : Option Addr} {len cap : Nat} {l : List α} (h : SL f n w a len cap l) : SL f n w.drew a len cap l := h.below ((Below.refl _ _).drew)
end
end Go.Proofs.Ytahkiabpjfcfdaa
