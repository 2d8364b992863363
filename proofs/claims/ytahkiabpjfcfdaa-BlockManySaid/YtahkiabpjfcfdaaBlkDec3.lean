/- Package block: Decode. -/
import Derived.Test.YtahkiabpjfcfdaaBlkRd
import Derived.Test.YtahkiabpjfcfdaaRd6
namespace Go.Proofs.Ytahkiabpjfcfdaa
open Go.RowKit
set_option linter.unusedVariables false
set_option linter.unusedSimpArgs false
set_option maxRecDepth 100000

/-- What Decode holds ahead of step j. -/
def StD (S Kb N B : Nat) (s : List UInt8) : Nat → World → Prop
  | 0, w => DV S Kb N w s zeroBlk 0
  | 1, w => ∃ p r, Sg1 s p r ∧ DV S Kb N w r ⟨p, zeroKey, 0, .nil⟩ 0
  | 2, w => ∃ p q r, Sg2 s p q r ∧ DV S Kb N w r ⟨p, q, 0, .nil⟩ 0
  | 3, w => ∃ p q n r, Sg3 s p q n r ∧ DV S Kb N w r ⟨p, q, (n : Int), .nil⟩ n
  | 4, w => ∃ p q n m r, Sg4 s p q n m r ∧ DV S Kb N w r ⟨p, q, (n : Int), .nil⟩ m
  | _, w => ∃ p q n u m c qs k, blkRd s = .ok ⟨p, q, (n : Nat), qs.map (·.2)⟩ ∧ n < 4294967296 ∧ DV S Kb N w [] ⟨p, q, (n : Int), ⟨u, m, c⟩⟩ k ∧ TL B w (.slice u m c) qs
/-- What step j comes to. -/
def StepTo (S Kb N B : Nat) (s : List UInt8) (j : Nat) (w : World) (e : Ending) (w' : World) : Prop :=
  DK S Kb N B w w' ∧ ((∃ x, ¬ x = 0 ∧ e = .returned (.int .i64 x) ∧ blkRd s = .error x) ∨ (e = .returned (.int .i64 0) ∧ StD S Kb N B s (j + 1) w'))

section
variable {S Kb N B T : Nat} {w : World} {s : List UInt8}
theorem step0 (h : StD S Kb N B s 0 w) (hNB : N < B) (hT : w.heap[T]? = some (.cells #[.pointer (some ⟨Kb, 0, none⟩)] 84 (0, 0))) (hTN : N < T) (hTB : T < B) (hs : s.length ≤ 1000000) :
    Calls Try.prog 53 #[.pointer (some ⟨S, 0, none⟩), .pointer (some ⟨T, 0, none⟩)] w (StepTo S Kb N B s 0 w) := by
  have h : DV S Kb N w s zeroBlk 0 := h
  have ho := h.ord
  rcases hk : keyR s with x | ⟨k, r⟩
  · obtain ⟨hV, rfl⟩ := keyV_err hk
    exact (dkey_any h hNB hT (by omega) (by omega) (by omega) hTB hs hV (by omega) (fun w s h => h.prev zeroKey)).mono fun e w' ⟨he, hV', hD⟩ => ⟨hD, .inl ⟨30, by omega, he, blkP_e0 hk⟩⟩
  · have hV := keyV_ok hk
    exact (dkey_any h hNB hT (by omega) (by omega) (by omega) hTB hs hV (by omega) (fun w s h => h.prev k)).mono fun e w' ⟨he, hV', hD⟩ => ⟨hD, .inr ⟨he, k, r, ⟨hk⟩, hV'⟩⟩
theorem step1 (h : StD S Kb N B s 1 w) (hNB : N < B) (hT : w.heap[T]? = some (.cells #[.pointer (some ⟨Kb, 32, none⟩)] 84 (0, 0))) (hTN : N < T) (hTB : T < B) (hs : s.length ≤ 1000000) :
    Calls Try.prog 53 #[.pointer (some ⟨S, 0, none⟩), .pointer (some ⟨T, 0, none⟩)] w (StepTo S Kb N B s 1 w) := by
  obtain ⟨p, r1, hg, h⟩ := h
  have ho := h.ord
  have hl := hg.le
  rcases hk : keyR r1 with x | ⟨k, r⟩
  · obtain ⟨hV, rfl⟩ := keyV_err hk
    exact (dkey_any h hNB hT (by omega) (by omega) (by omega) hTB (by omega) hV (by omega) (fun w s h => h.root zeroKey)).mono fun e w' ⟨he, hV', hD⟩ => ⟨hD, .inl ⟨30, by omega, he, blkP_e1 hg hk⟩⟩
  · have hV := keyV_ok hk
    exact (dkey_any h hNB hT (by omega) (by omega) (by omega) hTB (by omega) hV (by omega) (fun w s h => h.root k)).mono fun e w' ⟨he, hV', hD⟩ => ⟨hD, .inr ⟨he, p, k, r, ⟨r1, hg.h1, hk⟩, hV'⟩⟩
theorem step2 (h : StD S Kb N B s 2 w) (hNB : N < B) (hs : s.length ≤ 1000000) :
    Calls Try.prog 55 #[.pointer (some ⟨S, 0, none⟩), .pointer (some ⟨N, 0, none⟩), .pointer (some ⟨Kb, 0, none⟩)] w (StepTo S Kb N B s 2 w) := by
  obtain ⟨p, q, r1, hg, h⟩ := h
  rcases hk : numR 4 r1 with x | ⟨m, r⟩
  · obtain ⟨hV, rfl⟩ := getV_err (by omega) (by omega) hk
    exact (dnonce_any h hNB hV (by omega)).mono fun e w' ⟨he, hV', hD⟩ => ⟨hD, .inl ⟨30, by omega, he, blkP_e2 hg hk⟩⟩
  · have hV := getV_ok (by omega) (by omega) hk
    exact (dnonce_any h hNB hV (numR_le hk).2).mono fun e w' ⟨he, hV', hD⟩ => ⟨hD, .inr ⟨he, p, q, m, r, ⟨r1, hg, hk⟩, hV'⟩⟩
theorem step3 (h : StD S Kb N B s 3 w) (hNB : N < B) (hs : s.length ≤ 1000000) :
    Calls Try.prog 57 #[.pointer (some ⟨S, 0, none⟩), .pointer (some ⟨N, 0, none⟩)] w (StepTo S Kb N B s 3 w) := by
  obtain ⟨p, q, n, r1, hg, h⟩ := h
  have hl := hg.le
  obtain ⟨m, r, x, hv⟩ : ∃ m r x, readV r1 = (m, r, x) := ⟨_, _, _, rfl⟩
  by_cases hx : cmpX m x = 0
  · exact (dmany_any h hNB (by omega) hv).mono fun e w' ⟨he, hV', hD⟩ => ⟨hD, .inr ⟨by rw [he, hx], p, q, n, m, r, ⟨r1, hg, cmpR_ok hv hx⟩, hV'⟩⟩
  · exact (dmany_any h hNB (by omega) hv).mono fun e w' ⟨he, hV', hD⟩ => ⟨hD, .inl ⟨_, hx, he, blkP_e3 hg (cmpR_err hv hx)⟩⟩
theorem step4 (h : StD S Kb N B s 4 w) (hNB : N < B) (hBw : B ≤ w.heap.size) (hs : s.length ≤ 1000000) :
    Calls Try.prog 59 #[.pointer (some ⟨N, 0, none⟩), .pointer (some ⟨S, 0, none⟩), .pointer (some ⟨Kb, 0, none⟩)] w (StepTo S Kb N B s 4 w) := by
  obtain ⟨p, q, n, m, r1, hg, h⟩ := h
  have hl := hg.le
  refine (dtxs_any h hNB hBw (by omega) hg.few.2.1 rfl).mono fun e w' hh => ?_
  obtain ⟨hD, hh⟩ := hh
  refine ⟨hD, ?_⟩
  rcases hk : listR txR m r1 with x | ⟨l, r5⟩
  · rw [hk] at hh
    exact .inl ⟨x, listR_errne (fun s x h => txR_errne h) _ _ _ hk, hh, blkP_e4 hg hk⟩
  · rw [hk] at hh
    obtain ⟨h1, h2⟩ := hh
    by_cases hr : r5 = []
    · obtain ⟨he, u, a, c, qs, hV, hL, rfl⟩ := h1 hr
      subst hr
      exact .inr ⟨he, p, q, n, u, a, c, qs, m, blkP_ok hg hk, hg.few.2.2, hV, hL⟩
    · exact .inl ⟨50, by omega, h2 hr, blkP_m4 hg hk hr⟩
end
/-- The steps, as values. -/
def steps (S Kb N T U : Nat) : Array Value := #[.func (.func 53) #[] #[.pointer (some ⟨S, 0, none⟩), .pointer (some ⟨T, 0, none⟩)], .func (.func 53) #[] #[.pointer (some ⟨S, 0, none⟩), .pointer (some ⟨U, 0, none⟩)],
  .func (.func 55) #[] #[.pointer (some ⟨S, 0, none⟩), .pointer (some ⟨N, 0, none⟩), .pointer (some ⟨Kb, 0, none⟩)], .func (.func 57) #[] #[.pointer (some ⟨S, 0, none⟩), .pointer (some ⟨N, 0, none⟩)],
  .func (.func 59) #[] #[.pointer (some ⟨N, 0, none⟩), .pointer (some ⟨S, 0, none⟩), .pointer (some ⟨Kb, 0, none⟩)]]
attribute [local irreducible] Int.lt Int.le
attribute [local go_sem ↓] load_key store_key alloc_key build0_key eq_key load_tx store_tx alloc_tx build0_tx load_blk store_blk alloc_blk build0_blk append_tx one_tx
attribute [local go_sem] rowOf_drew rowOf_alloc_old rowOf_alloc_new canPut_drew canPut_alloc_old canPut_alloc_new setCells_alloc_new

theorem dclo_any (a b : Option Addr) (w : World) : Calls Try.prog 52 #[.pointer a, .pointer b] w (fun e w' => e = .returned (.func (.func 53) #[] #[.pointer b, .pointer (some ⟨w.heap.size, 0, none⟩)]) ∧ w' = w.alloc (.cells #[.pointer a] 84)) := by
  have hmf : ∀ (fn : Fn) (first cap : Array Value) (w : World), (Instr.makeFunc fn first cap).run Try.prog w = .ok (.func fn first cap) w := fun _ _ _ _ => rfl
  go_enter Try.func52, Try.ntmps52
  go_wp2_with fail
  go_ret
  exact ⟨rfl, rfl⟩

theorem seven (W : World) (a b c d e f g : Array Value) (ta tb tc td te tf tg : TypeId) :
    let w := ((((((W.alloc (.cells a ta)).alloc (.cells b tb)).alloc (.cells c tc)).alloc (.cells d td)).alloc (.cells e te)).alloc (.cells f tf)).alloc (.cells g tg)
    w.heap[W.heap.size]? = some (.cells a ta (0, 0)) ∧ w.heap[W.heap.size + 1]? = some (.cells b tb (0, 0)) ∧ w.heap[W.heap.size + 1 + 1]? = some (.cells c tc (0, 0)) ∧ w.heap[W.heap.size + 1 + 1 + 1]? = some (.cells d td (0, 0)) ∧
    w.heap[W.heap.size + 1 + 1 + 1 + 1]? = some (.cells e te (0, 0)) ∧ w.heap[W.heap.size + 1 + 1 + 1 + 1 + 1]? = some (.cells f tf (0, 0)) ∧ w.heap[W.heap.size + 1 + 1 + 1 + 1 + 1 + 1]? = some (.cells g tg (0, 0)) ∧
    w.heap.size = W.heap.size + 1 + 1 + 1 + 1 + 1 + 1 + 1 ∧ Below W.heap.size W w := by
  intro w
  have z1 : (W.alloc (.cells a ta)).heap.size = W.heap.size + 1 := by simp
  have b1 : Below W.heap.size W (W.alloc (.cells a ta)) := (Below.refl _ _).alloc (Nat.le_refl _) _
  have q1 := heap_alloc_new W (.cells a ta)
  have q2 := heap_alloc_new (W.alloc (.cells a ta)) (.cells b tb)
  rw [z1] at q2
  have step : ∀ (w1 : World) (x : Array Value) (t : TypeId), w1.heap.size ≥ W.heap.size → (w1.alloc (.cells x t)).heap.size = w1.heap.size + 1 ∧ (w1.alloc (.cells x t)).heap[w1.heap.size]? = some (.cells x t (0, 0)) ∧ (Below W.heap.size W w1 → Below W.heap.size W (w1.alloc (.cells x t))) ∧ ∀ b o, w1.heap[b]? = some o → (w1.alloc (.cells x t)).heap[b]? = some o := fun w1 x t h =>
    ⟨by simp, heap_alloc_new w1 _, fun hb => hb.alloc h _, fun b o hb => keepBlock ((Below.refl _ _).alloc (Nat.le_refl _) _) hb⟩
  have st := fun w1 x t h => step w1 x t h
  obtain ⟨z2, n2, B2, k2⟩ := step (W.alloc (.cells a ta)) b tb (by omega)
  obtain ⟨z3, n3, B3, k3⟩ := step _ c tc (by rw [z2, z1]; omega : ((W.alloc (.cells a ta)).alloc (.cells b tb)).heap.size ≥ W.heap.size)
  obtain ⟨z4, n4, B4, k4⟩ := step _ d td (by rw [z3, z2, z1]; omega : (((W.alloc (.cells a ta)).alloc (.cells b tb)).alloc (.cells c tc)).heap.size ≥ W.heap.size)
  obtain ⟨z5, n5, B5, k5⟩ := step _ e te (by rw [z4, z3, z2, z1]; omega : ((((W.alloc (.cells a ta)).alloc (.cells b tb)).alloc (.cells c tc)).alloc (.cells d td)).heap.size ≥ W.heap.size)
  obtain ⟨z6, n6, B6, k6⟩ := step _ f tf (by rw [z5, z4, z3, z2, z1]; omega : (((((W.alloc (.cells a ta)).alloc (.cells b tb)).alloc (.cells c tc)).alloc (.cells d td)).alloc (.cells e te)).heap.size ≥ W.heap.size)
  obtain ⟨z7, n7, B7, k7⟩ := step _ g tg (by rw [z6, z5, z4, z3, z2, z1]; omega : ((((((W.alloc (.cells a ta)).alloc (.cells b tb)).alloc (.cells c tc)).alloc (.cells d td)).alloc (.cells e te)).alloc (.cells f tf)).heap.size ≥ W.heap.size)
  rw [z1] at n2 z2
  rw [z2] at n3 z3
  rw [z3] at n4 z4
  rw [z4] at n5 z5
  rw [z5] at n6 z6
  rw [z6] at n7 z7
  exact ⟨k7 _ _ (k6 _ _ (k5 _ _ (k4 _ _ (k3 _ _ (k2 _ _ q1))))), k7 _ _ (k6 _ _ (k5 _ _ (k4 _ _ (k3 _ _ n2)))), k7 _ _ (k6 _ _ (k5 _ _ (k4 _ _ n3))), k7 _ _ (k6 _ _ (k5 _ _ n4)), k7 _ _ (k6 _ _ n5), k7 _ _ n6, n7, z7, B7 (B6 (B5 (B4 (B3 (B2 b1)))))⟩

/-- What the steps leave as it is. -/
structure DF (S Kb N T U St R : Nat) (w : World) : Prop where
  res : w.heap[R]? = some (.cells (blkC zeroBlk).toArray 50 (0, 0))
  t : w.heap[T]? = some (.cells #[.pointer (some ⟨Kb, 0, none⟩)] 84 (0, 0))
  u : w.heap[U]? = some (.cells #[.pointer (some ⟨Kb, 32, none⟩)] 84 (0, 0))
  st : w.heap[St]? = some (.cells (steps S Kb N T U) 85 (0, 0))
theorem DF.keep {S Kb N T U St R B : Nat} {w w' : World} (h : DF S Kb N T U St R w) (hd : DK S Kb N B w w') (ho : S < R ∧ R < Kb ∧ Kb < N ∧ N < T ∧ T < U ∧ U < St ∧ St < B) : DF S Kb N T U St R w' :=
  ⟨hd.block h.res (by omega) (by omega) (by omega) (by omega), hd.block h.t (by omega) (by omega) (by omega) (by omega), hd.block h.u (by omega) (by omega) (by omega) (by omega), hd.block h.st (by omega) (by omega) (by omega) (by omega)⟩
theorem DF.cells {S Kb N T U St R : Nat} {w : World} (h : DF S Kb N T U St R w) : St < w.heap.size ∧ R < w.heap.size ∧ canPut w R 0 66 = true ∧ ∀ (j : Nat) (f : Value), (steps S Kb N T U)[j]? = some f → w.cell? ⟨St, j, none⟩ = some f :=
  ⟨(Array.getElem?_eq_some_iff.1 h.st).1, (Array.getElem?_eq_some_iff.1 h.res).1, canPut_block h.res 0 66 (by simp [blkC_length]), fun j f hj => by rw [cell_of_row w St j _ _ _ h.st]; exact hj⟩
theorem res_blk {tmps : Array Value} {a : Nat} {w : World} {b o : Nat} {cs : List Value} (ht : tmps.getD a undef = .pointer (some ⟨b, o, none⟩)) (h : rowOf w b o 66 = some cs) :
    (oneRes tmps (.cell a 50)).run Try.prog w = .ok (.agg cs.toArray) w := res_cell Try.underlying50 rfl (by kernel_rfl) ht h
theorem row66_put {w : World} {b : Nat} {v : BlkV} {t : TypeId} (h : w.heap[b]? = some (.cells (blkC v).toArray t (0, 0))) (v' : BlkV) : rowOf (w.setCells b 0 (blkC v')) b 0 66 = some (blkC v') :=
  rowOf_of_rangeAt (World.rangeAt_setCells_same w b 0 (blkC v') (by rw [blkC_length]; exact canPut_there.1 (canPut_block h 0 66 (by simp [blkC_length])))) (blkC_length v')

set_option maxHeartbeats 4000000 in
theorem bdecode_any (s : List UInt8) (W : World) (hs : s.length ≤ 1000000) : Calls Try.prog 32 #[.string (sB s)] W (BlkTo W (blkRd s)) := by
  have hmf : ∀ (fn : Fn) (first cap : Array Value) (w : World), (Instr.makeFunc fn first cap).run Try.prog w = .ok (.func fn first cap) w := fun _ _ _ _ => rfl
  obtain ⟨q1, q2, q3, q4, q5, q6, q7, hz, hB⟩ := seven W #[.string (sB s)] (blkC zeroBlk).toArray (blkC zeroBlk).toArray #[.int .u64 0] #[.pointer (some ⟨W.heap.size + 1 + 1, 0, none⟩)] #[.pointer (some ⟨W.heap.size + 1 + 1, 32, none⟩)]
    (steps W.heap.size (W.heap.size + 1 + 1) (W.heap.size + 1 + 1 + 1) (W.heap.size + 1 + 1 + 1 + 1) (W.heap.size + 1 + 1 + 1 + 1 + 1)) 9 50 50 23 84 84 85
  have F0 : DF _ _ _ _ _ _ _ _ := ⟨q2, q5, q6, q7⟩
  have V0 : DV _ _ _ _ s zeroBlk 0 := ⟨⟨by omega, by omega⟩, q1, q3, q4⟩
  have hsz := Box.mk hz
  replace hB := Box.mk hB
  replace F0 := Box.mk F0
  replace V0 := Box.mk V0
  replace hs := Box.mk hs
  obtain ⟨o, ho⟩ : ∃ o, blkRd s = o := ⟨_, rfl⟩
  rw [ho]
  replace ho := Box.mk ho
  clear q1 q2 q3 q4 q5 q6 q7 hz
  go_enter Try.func32, Try.ntmps32
  go_wp2_with fail
  refine (dclo_any _ _ _).mono ?_
  rintro e w1 ⟨rfl, rfl⟩
  go_wp2_with fail
  refine (dclo_any _ _ _).mono ?_
  rintro e w1 ⟨rfl, rfl⟩
  go_wp2_with fail
  unfold steps at hB F0 V0 hsz
  generalize ((((((W.alloc (.cells #[.string (sB s)] 9)).alloc (.cells (blkC zeroBlk).toArray 50)).alloc (.cells (blkC zeroBlk).toArray 50)).alloc (.cells #[.int .u64 0] 23)).alloc (.cells #[.pointer (some ⟨W.heap.size + 1 + 1, 0, none⟩)] 84)).alloc (.cells #[.pointer (some ⟨W.heap.size + 1 + 1, 32, none⟩)] 84)).alloc (.cells _ 85) = w0 at *
  obtain ⟨S, hS⟩ : ∃ S, W.heap.size = S := ⟨_, rfl⟩
  rw [hS] at F0 V0 hsz ⊢
  replace hS := Box.mk hS
  go_loopw [24] (fun i wr => DK S (S + 1 + 1) (S + 1 + 1 + 1) (S + 1 + 1 + 1 + 1 + 1 + 1 + 1) w0 wr ∧ DF S (S + 1 + 1) (S + 1 + 1 + 1) (S + 1 + 1 + 1 + 1) (S + 1 + 1 + 1 + 1 + 1) (S + 1 + 1 + 1 + 1 + 1 + 1) (S + 1) wr ∧ ∃ j : Nat, j ≤ 5 ∧ i = .int .i64 j ∧ StD S (S + 1 + 1) (S + 1 + 1 + 1) (S + 1 + 1 + 1 + 1 + 1 + 1 + 1) s j wr) (fun i _ => 5 - (intOf i).toNat)
  case atStart => exact ⟨DK.refl _ _ _ _ _, F0.out, 0, Nat.zero_le _, rfl, V0.out⟩
  case round =>
    obtain ⟨hK, F, j, hj, rfl, hst⟩ := hrel
    replace hK := Box.mk hK
    replace F := Box.mk F
    replace hst := Box.mk hst
    by_cases h5 : j = 5
    · subst h5
      obtain ⟨p, q, n, u, m, c, qs, k, hR, hn, V, L⟩ := hst.out
      have hRo := Box.mk (show o = .ok ⟨p, q, (n : Nat), qs.map (·.2)⟩ by rw [← ho.out, hR])
      obtain ⟨y0, y1, y2, _⟩ := F.out.cells
      have row := Box.mk (row66_put F.out.res ⟨p, q, (n : Int), ⟨u, m, c⟩⟩)
      have fb := Box.mk (below_setCells (B := W.heap.size) (b := S + 1) (by have := hS.out; omega) (blkC ⟨p, q, (n : Int), ⟨u, m, c⟩⟩) 0 _ _ (hB.out.trans (hK.out.below.mono (by have := hS.out; omega))))
      have Lf := Box.mk ((L.congr (w' := wr.setCells (S + 1) 0 (blkC ⟨p, q, (n : Int), ⟨u, m, c⟩⟩)) (fun b h1 _ => heap_setCells_ne (by omega) _ _) (by rw [setCells_size]; exact Nat.le_refl _)).blk (p := p) (q := q) hn)
      obtain ⟨z0, z1, _⟩ := blk_all V.blk
      replace V := Box.mk V
      replace L := Box.mk L
      replace hR := Box.mk hR
      replace hn := Box.mk hn
      replace hst := Box.mk trivial
      generalize (⟨p, q, (n : Int), ⟨u, m, c⟩⟩ : BlkV) = vv at *
      go_wp2_with fail
      refine bodyPost_ret (v := .tuple #[.agg (blkC vv).toArray, .int .i64 0]) (res2 Try.results32 (res_blk (b := S + 1) (o := 0) (by simp [go_sem]) row.out) (v2 := .int .i64 0) (by simp [oneRes]; try rfl)) rfl ?_
      exact BlkTo.mk hRo.out Lf.out fb.out
    · rcases (by omega : j = 0 ∨ j = 1 ∨ j = 2 ∨ j = 3 ∨ j = 4) with rfl | rfl | rfl | rfl | rfl
      all_goals clear h5
      · obtain ⟨x0, x1, x2, x3⟩ := F.out.cells
        have xj : wr.cell? ⟨S + 1 + 1 + 1 + 1 + 1 + 1, 0, none⟩ = some (.func (.func 53) #[] #[.pointer (some ⟨S, 0, none⟩), .pointer (some ⟨S + 1 + 1 + 1 + 1, 0, none⟩)]) := x3 0 _ rfl
        replace x3 := Box.mk trivial
        replace hj := Box.mk hj
        go_wp2_with fail
        refine (step0 (B := S + 1 + 1 + 1 + 1 + 1 + 1 + 1) hst.out (by omega) F.out.t (by omega) (by omega) hs.out).mono ?_
        rintro e w5 ⟨hD, (⟨x, hx, rfl, hE⟩ | ⟨rfl, hS5⟩)⟩
        · have hx2 : (x != 0) = true := by simpa using hx
          have F5 := F.out.keep hD (by omega)
          have D5 := hK.out.trans hD
          obtain ⟨y0, y1, y2, _⟩ := F5.cells
          have row := row66_put F5.res zeroBlk
          have fb := Box.mk (below_setCells (B := W.heap.size) (b := S + 1) (by have := hS.out; omega) (blkC zeroBlk) 0 _ _ (hB.out.trans (D5.below.mono (by have := hS.out; omega))))
          have hEo : o = .error x := by rw [← ho.out, hE]
          replace hEo := Box.mk hEo
          replace hx := Box.mk hx
          replace hE := Box.mk hE
          replace F5 := Box.mk F5
          replace D5 := Box.mk D5
          replace hD := Box.mk hD
          replace row := Box.mk row
          clear x0 x1 x2 xj
          go_wp2_with fail
          refine bodyPost_ret (v := .tuple #[.agg (blkC zeroBlk).toArray, .int .i64 x]) (res2 Try.results32 (res_blk (b := S + 1) (o := 0) (by simp [go_sem]) row.out) (v2 := .int .i64 x) (by simp [oneRes]; try rfl)) rfl ?_
          exact BlkTo.err hEo.out hx.out fb.out
        · have F5 := Box.mk (F.out.keep hD (by omega))
          have D5 := Box.mk (hK.out.trans hD)
          replace hD := Box.mk hD
          replace hS5 := Box.mk hS5
          clear x0 x1 x2 xj
          go_wp2
          go_roundw
          case rel => exact ⟨D5.out, F5.out, 0 + 1, by omega, by first | rfl | go_num, hS5.out⟩
          case measure => simp [intOf]
      · obtain ⟨x0, x1, x2, x3⟩ := F.out.cells
        have xj : wr.cell? ⟨S + 1 + 1 + 1 + 1 + 1 + 1, 1, none⟩ = some (.func (.func 53) #[] #[.pointer (some ⟨S, 0, none⟩), .pointer (some ⟨S + 1 + 1 + 1 + 1 + 1, 0, none⟩)]) := x3 1 _ rfl
        replace x3 := Box.mk trivial
        replace hj := Box.mk hj
        go_wp2_with fail
        refine (step1 (B := S + 1 + 1 + 1 + 1 + 1 + 1 + 1) hst.out (by omega) F.out.u (by omega) (by omega) hs.out).mono ?_
        rintro e w5 ⟨hD, (⟨x, hx, rfl, hE⟩ | ⟨rfl, hS5⟩)⟩
        · have hx2 : (x != 0) = true := by simpa using hx
          have F5 := F.out.keep hD (by omega)
          have D5 := hK.out.trans hD
          obtain ⟨y0, y1, y2, _⟩ := F5.cells
          have row := row66_put F5.res zeroBlk
          have fb := Box.mk (below_setCells (B := W.heap.size) (b := S + 1) (by have := hS.out; omega) (blkC zeroBlk) 0 _ _ (hB.out.trans (D5.below.mono (by have := hS.out; omega))))
          have hEo : o = .error x := by rw [← ho.out, hE]
          replace hEo := Box.mk hEo
          replace hx := Box.mk hx
          replace hE := Box.mk hE
          replace F5 := Box.mk F5
          replace D5 := Box.mk D5
          replace hD := Box.mk hD
          replace row := Box.mk row
          clear x0 x1 x2 xj
          go_wp2_with fail
          refine bodyPost_ret (v := .tuple #[.agg (blkC zeroBlk).toArray, .int .i64 x]) (res2 Try.results32 (res_blk (b := S + 1) (o := 0) (by simp [go_sem]) row.out) (v2 := .int .i64 x) (by simp [oneRes]; try rfl)) rfl ?_
          exact BlkTo.err hEo.out hx.out fb.out
        · have F5 := Box.mk (F.out.keep hD (by omega))
          have D5 := Box.mk (hK.out.trans hD)
          replace hD := Box.mk hD
          replace hS5 := Box.mk hS5
          clear x0 x1 x2 xj
          go_wp2
          go_roundw
          case rel => exact ⟨D5.out, F5.out, 1 + 1, by omega, by first | rfl | go_num, hS5.out⟩
          case measure => simp [intOf]
      · obtain ⟨x0, x1, x2, x3⟩ := F.out.cells
        have xj : wr.cell? ⟨S + 1 + 1 + 1 + 1 + 1 + 1, 2, none⟩ = some (.func (.func 55) #[] #[.pointer (some ⟨S, 0, none⟩), .pointer (some ⟨S + 1 + 1 + 1, 0, none⟩), .pointer (some ⟨S + 1 + 1, 0, none⟩)]) := x3 2 _ rfl
        replace x3 := Box.mk trivial
        replace hj := Box.mk hj
        go_wp2_with fail
        refine (step2 (B := S + 1 + 1 + 1 + 1 + 1 + 1 + 1) hst.out (by omega) hs.out).mono ?_
        rintro e w5 ⟨hD, (⟨x, hx, rfl, hE⟩ | ⟨rfl, hS5⟩)⟩
        · have hx2 : (x != 0) = true := by simpa using hx
          have F5 := F.out.keep hD (by omega)
          have D5 := hK.out.trans hD
          obtain ⟨y0, y1, y2, _⟩ := F5.cells
          have row := row66_put F5.res zeroBlk
          have fb := Box.mk (below_setCells (B := W.heap.size) (b := S + 1) (by have := hS.out; omega) (blkC zeroBlk) 0 _ _ (hB.out.trans (D5.below.mono (by have := hS.out; omega))))
          have hEo : o = .error x := by rw [← ho.out, hE]
          replace hEo := Box.mk hEo
          replace hx := Box.mk hx
          replace hE := Box.mk hE
          replace F5 := Box.mk F5
          replace D5 := Box.mk D5
          replace hD := Box.mk hD
          replace row := Box.mk row
          clear x0 x1 x2 xj
          go_wp2_with fail
          refine bodyPost_ret (v := .tuple #[.agg (blkC zeroBlk).toArray, .int .i64 x]) (res2 Try.results32 (res_blk (b := S + 1) (o := 0) (by simp [go_sem]) row.out) (v2 := .int .i64 x) (by simp [oneRes]; try rfl)) rfl ?_
          exact BlkTo.err hEo.out hx.out fb.out
        · have F5 := Box.mk (F.out.keep hD (by omega))
          have D5 := Box.mk (hK.out.trans hD)
          replace hD := Box.mk hD
          replace hS5 := Box.mk hS5
          clear x0 x1 x2 xj
          go_wp2
          go_roundw
          case rel => exact ⟨D5.out, F5.out, 2 + 1, by omega, by first | rfl | go_num, hS5.out⟩
          case measure => simp [intOf]
      · obtain ⟨x0, x1, x2, x3⟩ := F.out.cells
        have xj : wr.cell? ⟨S + 1 + 1 + 1 + 1 + 1 + 1, 3, none⟩ = some (.func (.func 57) #[] #[.pointer (some ⟨S, 0, none⟩), .pointer (some ⟨S + 1 + 1 + 1, 0, none⟩)]) := x3 3 _ rfl
        replace x3 := Box.mk trivial
        replace hj := Box.mk hj
        go_wp2_with fail
        refine (step3 (B := S + 1 + 1 + 1 + 1 + 1 + 1 + 1) hst.out (by omega) hs.out).mono ?_
        rintro e w5 ⟨hD, (⟨x, hx, rfl, hE⟩ | ⟨rfl, hS5⟩)⟩
        · have hx2 : (x != 0) = true := by simpa using hx
          have F5 := F.out.keep hD (by omega)
          have D5 := hK.out.trans hD
          obtain ⟨y0, y1, y2, _⟩ := F5.cells
          have row := row66_put F5.res zeroBlk
          have fb := Box.mk (below_setCells (B := W.heap.size) (b := S + 1) (by have := hS.out; omega) (blkC zeroBlk) 0 _ _ (hB.out.trans (D5.below.mono (by have := hS.out; omega))))
          have hEo : o = .error x := by rw [← ho.out, hE]
          replace hEo := Box.mk hEo
          replace hx := Box.mk hx
          replace hE := Box.mk hE
          replace F5 := Box.mk F5
          replace D5 := Box.mk D5
          replace hD := Box.mk hD
          replace row := Box.mk row
          clear x0 x1 x2 xj
          go_wp2_with fail
          refine bodyPost_ret (v := .tuple #[.agg (blkC zeroBlk).toArray, .int .i64 x]) (res2 Try.results32 (res_blk (b := S + 1) (o := 0) (by simp [go_sem]) row.out) (v2 := .int .i64 x) (by simp [oneRes]; try rfl)) rfl ?_
          exact BlkTo.err hEo.out hx.out fb.out
        · have F5 := Box.mk (F.out.keep hD (by omega))
          have D5 := Box.mk (hK.out.trans hD)
          replace hD := Box.mk hD
          replace hS5 := Box.mk hS5
          clear x0 x1 x2 xj
          go_wp2
          go_roundw
          case rel => exact ⟨D5.out, F5.out, 3 + 1, by omega, by first | rfl | go_num, hS5.out⟩
          case measure => simp [intOf]
      · obtain ⟨x0, x1, x2, x3⟩ := F.out.cells
        have xj : wr.cell? ⟨S + 1 + 1 + 1 + 1 + 1 + 1, 4, none⟩ = some (.func (.func 59) #[] #[.pointer (some ⟨S + 1 + 1 + 1, 0, none⟩), .pointer (some ⟨S, 0, none⟩), .pointer (some ⟨S + 1 + 1, 0, none⟩)]) := x3 4 _ rfl
        replace x3 := Box.mk trivial
        replace hj := Box.mk hj
        go_wp2_with fail
        refine (step4 (B := S + 1 + 1 + 1 + 1 + 1 + 1 + 1) hst.out (by omega) (by have := hK.out.size; have := hsz.out; omega) hs.out).mono ?_
        rintro e w5 ⟨hD, (⟨x, hx, rfl, hE⟩ | ⟨rfl, hS5⟩)⟩
        · have hx2 : (x != 0) = true := by simpa using hx
          have F5 := F.out.keep hD (by omega)
          have D5 := hK.out.trans hD
          obtain ⟨y0, y1, y2, _⟩ := F5.cells
          have row := row66_put F5.res zeroBlk
          have fb := Box.mk (below_setCells (B := W.heap.size) (b := S + 1) (by have := hS.out; omega) (blkC zeroBlk) 0 _ _ (hB.out.trans (D5.below.mono (by have := hS.out; omega))))
          have hEo : o = .error x := by rw [← ho.out, hE]
          replace hEo := Box.mk hEo
          replace hx := Box.mk hx
          replace hE := Box.mk hE
          replace F5 := Box.mk F5
          replace D5 := Box.mk D5
          replace hD := Box.mk hD
          replace row := Box.mk row
          clear x0 x1 x2 xj
          go_wp2_with fail
          refine bodyPost_ret (v := .tuple #[.agg (blkC zeroBlk).toArray, .int .i64 x]) (res2 Try.results32 (res_blk (b := S + 1) (o := 0) (by simp [go_sem]) row.out) (v2 := .int .i64 x) (by simp [oneRes]; try rfl)) rfl ?_
          exact BlkTo.err hEo.out hx.out fb.out
        · have F5 := Box.mk (F.out.keep hD (by omega))
          have D5 := Box.mk (hK.out.trans hD)
          replace hD := Box.mk hD
          replace hS5 := Box.mk hS5
          clear x0 x1 x2 xj
          go_wp2
          go_roundw
          case rel => exact ⟨D5.out, F5.out, 4 + 1, by omega, by first | rfl | go_num, hS5.out⟩
          case measure => simp [intOf]
end Go.Proofs.Ytahkiabpjfcfdaa
