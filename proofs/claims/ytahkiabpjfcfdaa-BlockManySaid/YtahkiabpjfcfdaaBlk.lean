/- A block as a value: its cells; the rules of its type; what it is encoded to, in plain words. -/
import Derived.Test.YtahkiabpjfcfdaaBase2
namespace Go.Proofs.Ytahkiabpjfcfdaa
open Go.RowKit
set_option linter.unusedVariables false
set_option linter.unusedSimpArgs false
set_option maxRecDepth 100000

structure BlkV where
  prev : Key
  root : Key
  nonce : Int
  txs : Sl
structure BlkD where
  prev : Key
  root : Key
  nonce : Int
  txs : List TxD
@[irreducible] def blkC (b : BlkV) : List Value := keyC b.prev ++ (keyC b.root ++ [.int .u32 b.nonce, .slice b.txs.a b.txs.len b.txs.cap])
def zeroBlk : BlkV := ⟨zeroKey, zeroKey, 0, .nil⟩
@[go_sem] theorem blkC_length (b : BlkV) : (blkC b).length = 66 := by unfold blkC; simp [keyC_length]
@[go_sem] theorem blkC_row (b : BlkV) : isRow 66 (blkC b) = true := by
  unfold blkC
  have h2 : isRow 34 (keyC b.root ++ [.int .u32 b.nonce, .slice b.txs.a b.txs.len b.txs.cap]) = true := isRow_append (keyC_row _) (r := [_, _]) rfl
  have h1 := keyC_row b.prev
  simp only [isRow, Bool.and_eq_true, decide_eq_true_eq, List.length_append, List.all_append] at h1 h2 ⊢
  exact ⟨by omega, h1.2, h2.2⟩
theorem blk_mid (l m r : List Value) (j : Nat) (h : l.length = 32) (h2 : m.length = 32) : (l ++ (m ++ r))[64 + j]? = r[j]? := by
  rw [List.getElem?_append_right (by omega), h, List.getElem?_append_right (by omega), h2]
  congr 1; omega
@[go_sem] theorem blkC_64 (b : BlkV) : (blkC b)[64]? = some (.int .u32 b.nonce) := by unfold blkC; exact blk_mid _ _ _ 0 (keyC_length _) (keyC_length _)
@[go_sem] theorem blkC_65 (b : BlkV) : (blkC b)[65]? = some (.slice b.txs.a b.txs.len b.txs.cap) := by unfold blkC; exact blk_mid _ _ _ 1 (keyC_length _) (keyC_length _)

theorem load_blk (ρ : Operand → Value) (dst : Option Tmp) (x : Operand) (t : TypeId) (pos : String) (after : Array Edge) (guard : Option (Nat × Bool)) (w : World) :
    (execOp ρ ⟨dst, .load 50 x, t, pos, after, guard⟩).run Try.prog w = loadTo Try.prog 50 66 w (ρ x) :=
  exec_load Try.underlying50 rfl (by kernel_rfl) ρ dst x t pos after guard w
theorem store_blk (ρ : Operand → Value) (dst : Option Tmp) (a x : Operand) (t : TypeId) (pos : String) (after : Array Edge) (guard : Option (Nat × Bool)) (w : World) :
    (execOp ρ ⟨dst, .store 50 a x, t, pos, after, guard⟩).run Try.prog w = storeTo Try.prog 50 66 w (ρ a) (ρ x) :=
  exec_store (by kernel_rfl) ρ dst a x t pos after guard w
theorem alloc_blk (ρ : Operand → Value) (dst : Option Tmp) (t : TypeId) (pos : String) (after : Array Edge) (guard : Option (Nat × Bool)) (w : World) :
    (execOp ρ ⟨dst, .alloc 50, t, pos, after, guard⟩).run Try.prog w = .ok (.value (.pointer (some ⟨w.heap.size, 0, none⟩))) (w.alloc (.cells (blkC zeroBlk).toArray 50)) :=
  exec_alloc (by kernel_rfl) ρ dst t pos after guard w
theorem build0_blk (ρ : Operand → Value) (dst : Option Tmp) (t : TypeId) (pos : String) (after : Array Edge) (guard : Option (Nat × Bool)) (w : World) :
    (execOp ρ ⟨dst, .build 50 #[], t, pos, after, guard⟩).run Try.prog w = .ok (.value (.agg (blkC zeroBlk).toArray)) w :=
  exec_build0 (fun w => by kernel_rfl) ρ dst t pos after guard w
/-- A block of which only the transactions are written out. -/
def buildBlkTo (P : Program) (w : World) (u : Value) : Result Next := (do pure (.value (← Instr.build 50 #[(3, u)])) : Sem Next).run P w
theorem build_blk3 (ρ : Operand → Value) (dst : Option Tmp) (x : Operand) (t : TypeId) (pos : String) (after : Array Edge) (guard : Option (Nat × Bool)) (w : World) :
    (execOp ρ ⟨dst, .build 50 #[(3, x)], t, pos, after, guard⟩).run Try.prog w = buildBlkTo Try.prog w (ρ x) := by simp [execOp, buildBlkTo]
theorem run_build_blk3 (a : Option Addr) (n c : Nat) (w : World) : (Instr.build 50 #[(3, Value.slice a n c)]).run Try.prog w = .ok (.agg (blkC ⟨zeroKey, zeroKey, 0, ⟨a, n, c⟩⟩).toArray) w := by
  unfold blkC; kernel_rfl
@[go_sem] theorem buildBlkTo_lit (a : Option Addr) (n c : Nat) (w : World) : buildBlkTo Try.prog w (.slice a n c) = .ok (.value (.agg (blkC ⟨zeroKey, zeroKey, 0, ⟨a, n, c⟩⟩).toArray)) w := by
  unfold buildBlkTo
  rw [Sem.run_bind, run_build_blk3]
  rfl
def buildBlk23To (P : Program) (w : World) (x u : Value) : Result Next := (do pure (.value (← Instr.build 50 #[(2, x), (3, u)])) : Sem Next).run P w
theorem build_blk23 (ρ : Operand → Value) (dst : Option Tmp) (x y : Operand) (t : TypeId) (pos : String) (after : Array Edge) (guard : Option (Nat × Bool)) (w : World) :
    (execOp ρ ⟨dst, .build 50 #[(2, x), (3, y)], t, pos, after, guard⟩).run Try.prog w = buildBlk23To Try.prog w (ρ x) (ρ y) := by simp [execOp, buildBlk23To]
theorem run_build_blk23 (i : Int) (a : Option Addr) (n c : Nat) (w : World) : (Instr.build 50 #[(2, Value.int .u32 i), (3, Value.slice a n c)]).run Try.prog w = .ok (.agg (blkC ⟨zeroKey, zeroKey, i, ⟨a, n, c⟩⟩).toArray) w := by
  unfold blkC; kernel_rfl
@[go_sem] theorem buildBlk23To_lit (i : Int) (a : Option Addr) (n c : Nat) (w : World) : buildBlk23To Try.prog w (.int .u32 i) (.slice a n c) = .ok (.value (.agg (blkC ⟨zeroKey, zeroKey, i, ⟨a, n, c⟩⟩).toArray)) w := by
  unfold buildBlk23To
  rw [Sem.run_bind, run_build_blk23]
  rfl
/-- What a block's cells are, all of them. -/
theorem blk_all {w : World} {b : Nat} {v : BlkV} (h : w.heap[b]? = some (.cells (blkC v).toArray 50 (0, 0))) :
    b < w.heap.size ∧ rowOf w b 0 66 = some (blkC v) ∧ rowOf w b 0 32 = some (keyC v.prev) ∧ rowOf w b 32 32 = some (keyC v.root) ∧ w.cell? ⟨b, 64, none⟩ = some (.int .u32 v.nonce) ∧ w.cell? ⟨b, 65, none⟩ = some (.slice v.txs.a v.txs.len v.txs.cap) := by
  have hr : rowOf w b 0 66 = some (blkC v) := by
    rw [rowOf_block h 0 66 (by simp [blkC_length])]
    congr 1; simp
    exact List.take_of_length_le (by rw [blkC_length]; exact Nat.le_refl _)
  have hc := (rowOf_some.1 hr).2
  have c := fun j u (e : (blkC v)[j]? = some u) => by
    have := hc j u e
    rw [Nat.zero_add] at this
    exact this
  have hp := rowOf_sub hr 0 32 (by omega)
  have hq := rowOf_sub hr 32 32 (by omega)
  rw [Nat.add_zero] at hp
  rw [Nat.zero_add] at hq
  refine ⟨(Array.getElem?_eq_some_iff.1 h).1, hr, ?_, ?_, c 64 _ (blkC_64 v), c 65 _ (blkC_65 v)⟩
  · rw [hp]
    unfold blkC
    rw [List.drop_zero, List.take_append_of_le_length (by rw [keyC_length]; exact Nat.le_refl _), List.take_of_length_le (by rw [keyC_length]; exact Nat.le_refl _)]
  · rw [hq]
    unfold blkC
    rw [List.drop_append_of_le_length (by rw [keyC_length]; exact Nat.le_refl _), List.drop_of_length_le (by rw [keyC_length]; exact Nat.le_refl _), List.nil_append,
      List.take_append_of_le_length (by rw [keyC_length]; exact Nat.le_refl _), List.take_of_length_le (by rw [keyC_length]; exact Nat.le_refl _)]
/-- The value v has the content d, in the world w; its transactions are, value and content, the list qs. -/
structure BlkL (w : World) (v : BlkV) (qs : List (TxV × TxD)) (d : BlkD) : Prop where
  txs : SL (fun q : TxV × TxD => txC q.1) 38 w v.txs.a v.txs.len v.txs.cap qs
  each : ∀ q ∈ qs, TxL w q.1 q.2
  cont : d.txs = qs.map (·.2)
  prev : v.prev = d.prev
  root : v.root = d.root
  nonce : v.nonce = d.nonce ∧ 0 ≤ d.nonce ∧ d.nonce ≤ 4294967295
theorem BlkL.below {w w' : World} {v : BlkV} {qs : List (TxV × TxD)} {d : BlkD} (h : BlkL w v qs d) (hb : Below w.heap.size w w') : BlkL w' v qs d :=
  ⟨h.txs.below hb, fun q hq => (h.each q hq).below hb, h.cont, h.prev, h.root, h.nonce⟩
theorem BlkL.vlen {w : World} {v : BlkV} {qs : List (TxV × TxD)} {d : BlkD} (h : BlkL w v qs d) : v.txs.len = d.txs.length := by rw [h.txs.1, h.cont, List.length_map]
/-- No list of it is longer than the bound of the statements. -/
def okT (d : TxD) : Prop := d.ins.length ≤ 60 ∧ d.outs.length ≤ 60 ∧ d.nulls.length ≤ 60 ∧ d.notes.length ≤ 60
/-- A transaction with its content, in the world w. -/
abbrev TQ (w : World) := { q : TxV × TxD // TxL w q.1 q.2 ∧ okT q.2 }
def tqs {w : World} (qs : List (TxV × TxD)) (h : ∀ q ∈ qs, TxL w q.1 q.2 ∧ okT q.2) : List (TQ w) := qs.pmap (fun q hq => ⟨q, hq⟩) h
theorem tqs_val {w : World} {qs : List (TxV × TxD)} (h : ∀ q ∈ qs, TxL w q.1 q.2 ∧ okT q.2) : (tqs qs h).map (·.1) = qs := by unfold tqs; rw [List.map_pmap]; simp
theorem tqs_length {w : World} {qs : List (TxV × TxD)} (h : ∀ q ∈ qs, TxL w q.1 q.2 ∧ okT q.2) : (tqs qs h).length = qs.length := by unfold tqs; simp
theorem tqs_get {w : World} {qs : List (TxV × TxD)} (h : ∀ q ∈ qs, TxL w q.1 q.2 ∧ okT q.2) {i : Nat} {x : TQ w} (hx : (tqs qs h)[i]? = some x) : qs[i]? = some x.1 := by
  rw [← tqs_val h, List.getElem?_map, hx]; rfl
/-- What transactions with their contents hold. -/
def dsOf {w : World} (l : List (TQ w)) : List TxD := l.map (·.1.2)
theorem dsOf_tqs {w : World} {v : BlkV} {qs : List (TxV × TxD)} {d : BlkD} (hb : BlkL w v qs d) (h : ∀ q ∈ qs, TxL w q.1 q.2 ∧ okT q.2) : dsOf (tqs qs h) = d.txs := by
  rw [hb.cont]; unfold dsOf
  rw [show (fun x : TQ w => x.1.2) = (fun q : TxV × TxD => q.2) ∘ (fun x : TQ w => x.1) from rfl, ← List.map_map, tqs_val]
/-- A block within the bound of the statements. -/
def okB (d : BlkD) : Prop := d.txs.length ≤ 40 ∧ ∀ t ∈ d.txs, okT t
theorem BlkL.ok {w : World} {v : BlkV} {qs : List (TxV × TxD)} {d : BlkD} (h : BlkL w v qs d) (hk : okB d) : ∀ q ∈ qs, TxL w q.1 q.2 ∧ okT q.2 := fun q hq => ⟨h.each q hq, hk.2 _ (by rw [h.cont]; exact List.mem_map_of_mem hq)⟩
/-- The notes of transactions, one behind the other. -/
def notesL (l : List TxD) : List Key := l.flatMap (·.notes)
theorem notesL_snoc (l : List TxD) (d : TxD) : notesL (l ++ [d]) = notesL l ++ d.notes := by unfold notesL; simp

/-! ### What it is encoded to -/
/-- Transactions' bytes, one behind the other, or the first errno. -/
def encTxs : List TxD → Except Int (List UInt8)
  | [] => .ok []
  | d :: l => if (encV d).2 = 0 then (match encTxs l with | .ok s => .ok ((encV d).1 ++ s) | .error x => .error x) else .error (encV d).2
@[irreducible] def blkHead (d : BlkD) : List UInt8 := d.prev.val ++ d.root.val ++ le 4 d.nonce.toNat ++ compactL d.txs.length
@[irreducible] def blkR (d : BlkD) : Except Int (List UInt8) := if d.txs.length = 0 then .error 110 else if 30 < d.txs.length then .error 51 else match encTxs d.txs with | .ok s => .ok (blkHead d ++ s) | .error x => .error x
@[irreducible] def blkV (d : BlkD) : List UInt8 × Int := match blkR d with | .ok s => (s, 0) | .error x => ([], x)
theorem encTxs_snoc : ∀ (l : List TxD) (d : TxD) (s : List UInt8), encTxs l = .ok s → encTxs (l ++ [d]) = if (encV d).2 = 0 then .ok (s ++ (encV d).1) else .error (encV d).2
  | [], d, s, h => by
    injection h with h
    subst h
    show encTxs [d] = _
    unfold encTxs
    split <;> simp [encTxs]
  | x :: l, d, s, h => by
    unfold encTxs at h
    split at h
    · rename_i hx
      cases hl : encTxs l with
      | error y => rw [hl] at h; cases h
      | ok s2 =>
        rw [hl] at h
        injection h with h
        subst h
        have ih := encTxs_snoc l d s2 hl
        rw [List.cons_append, encTxs, if_pos hx, ih]
        by_cases h2 : (encV d).2 = 0
        · rw [if_pos h2, if_pos h2]; simp [List.append_assoc]
        · rw [if_neg h2, if_neg h2]
    · cases h
theorem encTxs_error : ∀ (l m : List TxD) (x : Int), encTxs l = .error x → encTxs (l ++ m) = .error x
  | [], _, _, h => by cases h
  | d :: l, m, x, h => by
    unfold encTxs at h
    rw [List.cons_append, encTxs]
    split at h
    · rename_i hx
      rw [if_pos hx]
      cases hl : encTxs l with
      | error y => rw [hl] at h; injection h with h; subst h; rw [encTxs_error l m y hl]
      | ok s => rw [hl] at h; cases h
    · rename_i hx
      rw [if_neg hx]; exact h
theorem encV_le (d : TxD) : (encV d).1.length ≤ 1000000 := by
  rcases encV_cases d with ⟨_, h⟩ | ⟨_, _, _, h⟩ | ⟨hm, _, h⟩
  · rw [h]; simp
  · rw [h]; simp
  · rw [h]
    have := encB_length hm
    obtain ⟨h1, h2, h3, h4⟩ := manyB_false hm
    show (encB d).length ≤ _
    split at this <;> omega

end Go.Proofs.Ytahkiabpjfcfdaa
