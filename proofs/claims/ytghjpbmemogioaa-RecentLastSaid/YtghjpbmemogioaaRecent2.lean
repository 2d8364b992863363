/- slices.DeleteFunc at items; recent.kept. -/
import Derived.Test.YtghjpbmemogioaaRecent
namespace Go.Proofs.Ytghjpbmemogioaa
set_option maxRecDepth 100000
open Go.RowKit
set_option linter.unusedVariables false
set_option linter.unusedSimpArgs false
attribute [local irreducible] Int.lt Int.le
attribute [local go_sem ↓] load_key store_key alloc_key build0_key eq_key load_it store_it alloc_it one_it make_it append_it build_it eq_it exec_clear
attribute [local go_sem] rowOf_drew rowOf_alloc_old rowOf_alloc_new canPut_drew canPut_alloc_old canPut_alloc_new setCells_alloc_new

theorem idxI_cases (p : ItemV → Bool) (l : List ItemV) : (idxI p l = -1 ∧ l.filter (fun x => !p x) = l) ∨ ∃ k, ∃ hk : k < l.length, idxI p l = (k : Int) ∧ p l[k] = true ∧ (l.take (k + 1)).filter (fun x => !p x) = l.take k := by
  unfold idxI
  cases h : l.findIdx? p with
  | none =>
    refine .inl ⟨rfl, List.filter_eq_self.2 fun x hx => ?_⟩
    rw [List.findIdx?_eq_none_iff] at h
    rw [h x hx]; rfl
  | some k =>
    rw [List.findIdx?_eq_some_iff_getElem] at h
    obtain ⟨hk, hp, hall⟩ := h
    refine .inr ⟨k, hk, rfl, hp, ?_⟩
    rw [List.take_add_one, List.getElem?_eq_getElem hk, List.filter_append]
    have h1 : (l.take k).filter (fun x => !p x) = l.take k := List.filter_eq_self.2 fun x hx => by
      obtain ⟨t, ht, rfl⟩ := List.mem_iff_getElem.1 hx
      rw [List.getElem_take]
      rw [List.length_take] at ht
      have := hall t (by omega)
      simp only [Bool.not_eq_true] at this
      rw [this]; rfl
    rw [h1]
    simp [hp]

/-- How far DeleteFunc has come. -/
structure DelInv (q : ItemV → Bool) (l m : List ItemV) (i j : Nat) : Prop where
  len : m.length = l.length
  lt : i < j
  le : j ≤ l.length
  head : m.take i = (l.take j).filter (fun x => !q x)
  tail : m.drop j = l.drop j
theorem DelInv.at {q : ItemV → Bool} {l m : List ItemV} {i j : Nat} (h : DelInv q l m i j) {v : ItemV} (hj : l[j]? = some v) : m[j]? = some v := by
  have := congrArg (fun x => x[0]?) h.tail
  simp only [List.getElem?_drop, Nat.add_zero] at this
  rw [this, hj]
theorem DelInv.skip {q : ItemV → Bool} {l m : List ItemV} {i j : Nat} (h : DelInv q l m i j) {v : ItemV} (hj : l[j]? = some v) (hq : q v = true) : DelInv q l m i (j + 1) := by
  have hlt := (List.getElem?_eq_some_iff.1 hj).1
  refine ⟨h.len, by have := h.lt; omega, hlt, ?_, ?_⟩
  · rw [List.take_add_one, hj, List.filter_append, ← h.head]; simp [hq]
  · rw [← List.drop_drop, h.tail, List.drop_drop]
theorem DelInv.keep {q : ItemV → Bool} {l m : List ItemV} {i j : Nat} (h : DelInv q l m i j) {v : ItemV} (hj : l[j]? = some v) (hq : q v = false) : DelInv q l (m.set i v) (i + 1) (j + 1) := by
  have hlt := (List.getElem?_eq_some_iff.1 hj).1
  have h1 := h.lt
  have h2 := h.len
  refine ⟨by rw [List.length_set]; exact h2, by omega, hlt, ?_, ?_⟩
  · rw [List.take_add_one, List.getElem?_set_self (by omega), List.take_set_of_le (Nat.le_refl _), List.take_add_one, hj, List.filter_append, ← h.head]; simp [hq]
  · rw [List.drop_set_of_lt (by omega), ← List.drop_drop, h.tail, List.drop_drop]
theorem DelInv.start {q : ItemV → Bool} {l : List ItemV} {k : Nat} (hk : k < l.length) (h : (l.take (k + 1)).filter (fun x => !q x) = l.take k) : DelInv q l l k (k + 1) := ⟨rfl, by omega, hk, h.symm, rfl⟩

set_option maxHeartbeats 2000000 in
theorem del_any (u : Option Addr) (n c : Nat) (l : List ItemV) (g : Nat) (lb : Array Value) (q : ItemV → Bool) (eg : ∀ args w, (callFunc g args).run Try.prog w = .ok (.enter g args) w) (W : World) (B : Nat) (hB : B ≤ W.heap.size) (h : IOwn W B (.slice u n c) l) (hn : n ≤ 100000) (hq : PredOn B g lb q W) :
    Calls Try.prog 48 #[.slice u n c, .func (.func g) #[] lb] W (fun e w' => ∃ n', e = .returned (.slice u n' c) ∧ IOwn w' B (.slice u n' c) (l.filter fun x => !q x) ∧ Below B W w') := by
  have hl := h.sl'.1
  have hL := h.sl'.2
  have hix := idxf_any u n c l g lb q eg W hL hn (hq.mono hB)
  have hcap : n ≤ c := hL.2.1
  have hcm : c ≤ maxLen := hL.2.2.1
  rcases idxI_cases q l with ⟨e1, e2⟩ | ⟨k, hk, e1, e2, e3⟩
  · rw [e1] at hix
    rw [e2]
    replace h := Box.mk h
    replace hix := Box.mk hix
    replace hl := Box.mk hl
    replace hL := Box.mk hL
    clear e1 e2
    go_enter Try.func48, Try.ntmps48
    go_wp2_with fail
    refine hix.out.mono ?_
    rintro e w2 ⟨rfl, hb2⟩
    go_wp2
    go_ret
    exact ⟨_, rfl, h.out.below hb2, hb2.mono hB⟩
  · rw [e1] at hix
    have hI := DelInv.start hk e3
    replace h := Box.mk h
    replace hix := Box.mk hix
    replace hI := Box.mk hI
    replace hl := Box.mk hl
    replace hL := Box.mk hL
    clear e1 e2 e3
    have hkn : k < n := by rw [hl.out]; exact hk
    have hne : ¬ ((k : Int) = -1) := by omega
    have hne1 : ((k : Int) == -1) = false := beq_eq_false_iff_ne.2 (by omega)
    go_enter Try.func48, Try.ntmps48
    go_wp2_with fail
    refine hix.out.mono ?_
    rintro e w2 ⟨rfl, hb2⟩
    have hb2' := hb2.mono hB
    have h2 := h.out.below hb2
    have hs2 := hb2.size
    clear hb2
    go_wp2_with fail
    go_loopw [5, 6, 7] (fun s5 s6 _ wr => ∃ (i j : Nat) (m : List ItemV), s5 = .int .i64 i ∧ s6 = .int .i64 j ∧ Below B W wr ∧ W.heap.size ≤ wr.heap.size ∧ DelInv q l m i j ∧ IOwn wr B (.slice u n c) m) (fun _ s6 _ _ => n - (intOf s6).toNat)
    case atStart => exact ⟨k, k + 1, l, rfl, by go_num, hb2', hs2, hI.out, h2⟩
    case round =>
      obtain ⟨i, j, m, rfl, rfl, hbr, hsr, hinv, hown⟩ := hrel
      have hij := hinv.lt
      have hjn : j ≤ n := by rw [hl.out]; exact hinv.le
      have hin : i < m.length := by rw [hinv.len, ← hl.out]; omega
      obtain ⟨hml, hS⟩ := hown.sl'
      by_cases hlt : j < n
      · have hlt' : (j : Int) < (n : Int) := by omega
        have hjl : j < l.length := by rw [← hl.out]; exact hlt
        have hx : l[j]? = some l[j] := List.getElem?_eq_getElem hjl
        obtain ⟨b, o, rfl, hb, hr⟩ := SL.elem itC_length hS (hinv.at hx)
        generalize l[j] = v at *
        have hB3 : Below wr.heap.size wr (wr.alloc (.cells (itC v).toArray 55)) := (Below.refl _ _).alloc (Nat.le_refl _) _
        have hv3 : rowOf (wr.alloc (.cells (itC v).toArray 55)) wr.heap.size 0 33 = some (itC v) := rowOf_alloc_new _ _ _ _ _ _ rfl (itC_length v)
        have hcall := hq (wr.alloc (.cells (itC v).toArray 55)) (hbr.trans (hB3.mono (by omega))) v
        have hs3 : (wr.alloc (.cells (itC v).toArray 55)).heap.size = wr.heap.size + 1 := by simp
        replace hown := hown.below hB3
        replace hbr := hbr.trans (hB3.mono (by omega))
        replace hml := Box.mk hml
        replace hx := Box.mk hx
        clear hS
        go_wp2_with fail
        generalize wr.alloc (.cells (itC v).toArray 55) = w3 at *
        cases hqv : q v
        · rw [hqv] at hcall
          refine hcall.mono ?_
          rintro e w4 ⟨rfl, hb4⟩
          have hv4 : rowOf w4 wr.heap.size 0 33 = some (itC v) := by rw [rowOf_congr (hb4.block _ (by omega))]; exact hv3
          have hs4 : wr.heap.size < w4.heap.size := by have := hb4.size; omega
          obtain ⟨g0, hg0, hg1, hg2, hg3, hg4, hg5⟩ := (hown.below hb4).put itC_length i hin v
          injection hg0 with hg0
          injection hg0 with hg0 ho0
          subst hg0 ho0
          have hbn : Below B W (w4.setCells b (i * 33) (itC v)) := hbr.trans ((hb4.mono (by omega)).trans hg5)
          have hsn : W.heap.size ≤ (w4.setCells b (i * 33) (itC v)).heap.size := by rw [setCells_size']; omega
          have hi2 := hinv.keep hx.out hqv
          have hin' : (i : Int) < (n : Int) := by omega
          replace hbn := Box.mk hbn
          replace hsn := Box.mk hsn
          replace hi2 := Box.mk hi2
          replace hg4 := Box.mk hg4
          replace hg5 := Box.mk hg5
          replace hown := Box.mk hown
          replace hinv := Box.mk hinv
          replace hqv := Box.mk hqv
          clear hr hv3 hcall
          go_wp2
          go_roundw
          case rel => exact ⟨i + 1, j + 1, _, by go_num, by go_num, hbn.out, hsn.out, hi2.out, hg4.out⟩
          case measure => simp [intOf]; omega
        · rw [hqv] at hcall
          refine hcall.mono ?_
          rintro e w4 ⟨rfl, hb4⟩
          have hi2 := hinv.skip hx.out hqv
          replace hi2 := Box.mk hi2
          replace hown := Box.mk hown
          replace hinv := Box.mk hinv
          replace hqv := Box.mk hqv
          clear hr hv3 hcall
          go_wp2
          go_roundw
          case rel => exact ⟨i, j + 1, m, rfl, by go_num, hbr.trans (hb4.mono (by omega)), by have := hb4.size; omega, hi2.out, hown.out.below hb4⟩
          case measure => simp [intOf]; omega
      · obtain rfl : j = n := by omega
        have hfin : m.take i = l.filter fun x => !q x := by rw [hinv.head, hl.out, List.take_length]
        rcases hown.wipe itC_length i (by omega) (List.replicate (m.length - i) zeroItem) (by simp) with ⟨rfl, rfl⟩ | ⟨g0, rfl, hg1, hg2, hg3, hg4, hg5⟩
        · simp at hin
        · rw [List.length_replicate] at hg3
          have hcl := fun (k' : Nat) (ty : TypeId) => clearTo_rows (P := Try.prog) (t := 38) (ty := ty) (c := k') Try.underlying38 zero_it itC_length itC_row hg3 (by omega : 0 < m.length - i)
          rw [← hml] at hcl
          rw [hfin] at hg4
          have hbn := hbr.trans hg5
          rw [← hml] at hg4 hbn
          replace hg4 := Box.mk hg4
          replace hg5 := Box.mk hg5
          replace hbn := Box.mk hbn
          replace hcl := Box.mk hcl
          replace hown := Box.mk hown
          replace hinv := Box.mk hinv
          replace hfin := Box.mk hfin
          replace hml := Box.mk hml
          clear hS hq
          go_wp2_with fail
          rw [hcl.out]
          go_wp2
          go_ret
          exact ⟨_, rfl, hg4.out, hbn.out⟩

set_option maxHeartbeats 1000000 in
theorem keptc_any (b g : Nat) (lb : Array Value) (p : ItemV → Bool) (eg : ∀ args w, (callFunc g args).run Try.prog w = .ok (.enter g args) w) (W : World) (hc : W.cell? ⟨b, 0, none⟩ = some (.func (.func g) #[] lb)) (hb : b < W.heap.size) (hp : PredOn W.heap.size g lb p W) (x : ItemV) :
    Calls Try.prog 50 #[.agg (itC x).toArray, .pointer (some ⟨b, 0, none⟩)] W (Gives (.bool (!p x)) W) := by
  have hB1 : Below W.heap.size W (W.alloc (.cells (itC x).toArray 55)) := (Below.refl _ _).alloc (Nat.le_refl _) _
  have hcall := Box.mk (hp _ hB1 x)
  replace hp := Box.mk hp
  go_enter Try.func50, Try.ntmps50
  go_wp2_with fail
  refine hcall.out.mono ?_
  rintro e w2 ⟨rfl, hb2⟩
  go_wp2
  go_ret
  exact gives_bool rfl (hB1.trans (hb2.mono hB1.size))

set_option maxHeartbeats 1000000 in
theorem kept_any (a : Option Addr) (n c : Nat) (l : List ItemV) (g : Nat) (lb : Array Value) (p : ItemV → Bool) (eg : ∀ args w, (callFunc g args).run Try.prog w = .ok (.enter g args) w) (W : World) (h : IL W a n c l) (hn : n ≤ 100000) (hp : PredOn W.heap.size g lb p W) :
    Calls Try.prog 40 #[.slice a n c, .func (.func g) #[] lb] W (IPost (l.filter p) W) := by
  have hB1 : Below W.heap.size W (W.alloc (.cells #[.func (.func g) #[] lb] 64)) := (Below.refl _ _).alloc (Nat.le_refl _) _
  have hc1 : (W.alloc (.cells #[.func (.func g) #[] lb] 64)).cell? ⟨W.heap.size, 0, none⟩ = some (.func (.func g) #[] lb) := by simp [go_sem]
  have hs1 : (W.alloc (.cells #[.func (.func g) #[] lb] 64)).heap.size = W.heap.size + 1 := by simp
  have hln := h.1
  have hcl := clone_any a n c l _ (h.below hB1) hn
  have e50 : ∀ args w, (callFunc 50 args).run Try.prog w = .ok (.enter 50 args) w := fun args w => by simp [go_sem]
  replace h := Box.mk h
  replace hln := Box.mk hln
  go_enter Try.func40, Try.ntmps40
  go_wp2_with fail
  generalize W.alloc (.cells #[.func (.func g) #[] lb] 64) = w1 at *
  refine hcl.mono ?_
  rintro e w2 ⟨a2, n2, c2, rfl, hown, hb2⟩
  have hn2 : n2 = l.length := hown.sl'.1
  have hq : PredOn w1.heap.size 50 #[.pointer (some ⟨W.heap.size, 0, none⟩)] (fun x => !p x) w2 := fun w' hw x => by
    have hb := hb2.trans hw
    exact keptc_any W.heap.size g lb p eg w' (by rw [hb.cell (p := ⟨W.heap.size, 0, none⟩) (by show W.heap.size < _; omega)]; exact hc1) (by have := hb.size; omega) ((hp.to (hB1.trans (hb.mono (by omega)))).mono (by have := hb.size; omega)) x
  have hdel := del_any a2 n2 c2 l 50 #[.pointer (some ⟨W.heap.size, 0, none⟩)] (fun x => !p x) e50 w2 w1.heap.size hb2.size hown (by rw [hn2, ← hln.out]; exact hn) hq
  replace hq := Box.mk hq
  replace hown := Box.mk hown
  replace hn2 := Box.mk hn2
  replace hdel := Box.mk hdel
  replace hp := Box.mk hp
  replace hcl := Box.mk hcl
  clear hcl
  go_wp2_with fail
  refine hdel.out.mono ?_
  rintro e w3 ⟨n3, rfl, hown3, hb3⟩
  simp only [Bool.not_not] at hown3
  replace hown3 := Box.mk hown3
  go_wp2
  go_ret
  exact ⟨_, _, _, rfl, hown3.out.mono (by omega), hB1.trans ((hb2.trans hb3).mono (by omega))⟩

end Go.Proofs.Ytghjpbmemogioaa
