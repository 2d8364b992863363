/- Package recent: the predicates; Old, Has. -/
import Derived.Test.YtghjpbmemogioaaRecent2
namespace Go.Proofs.Ytghjpbmemogioaa
set_option maxRecDepth 100000
open Go.RowKit
set_option linter.unusedVariables false
set_option linter.unusedSimpArgs false
attribute [local irreducible] Int.lt Int.le
attribute [local go_sem ↓] load_key store_key alloc_key build0_key eq_key load_it store_it alloc_it one_it make_it append_it build_it eq_it exec_clear
attribute [local go_sem] rowOf_drew rowOf_alloc_old rowOf_alloc_new canPut_drew canPut_alloc_old canPut_alloc_new setCells_alloc_new

/-- Is an item's time not over? -/
@[irreducible] def youngB (now : Int) (x : ItemV) : Bool := decide (now < x.at_) || decide (IntKind.u64.wrap (now - x.at_) < 60)
theorem youngB_lt {now : Int} {x : ItemV} (h : now < x.at_) : youngB now x = true := by unfold youngB; simp [h]
theorem youngB_ge {now : Int} {x : ItemV} (h : ¬ now < x.at_) : youngB now x = decide (IntKind.u64.wrap (now - x.at_) < 60) := by unfold youngB; simp [h]
theorem it_at {w : World} {b o : Nat} {x : ItemV} (h : rowOf w b o 33 = some (itC x)) : rowOf w b o 32 = some (keyC x.id) ∧ w.cell? ⟨b, o + 32, none⟩ = some (.int .u64 x.at_) := by
  constructor
  · have := rowOf_sub h 0 32 (by omega)
    rw [Nat.add_zero, List.drop_zero] at this
    rw [this]
    unfold itC
    rw [List.take_append_of_le_length (by rw [keyC_length]; exact Nat.le_refl _), List.take_of_length_le (by rw [keyC_length]; exact Nat.le_refl _)]
  · have := (rowOf_some.1 h).2 32 (.int .u64 x.at_) (by
      unfold itC
      rw [List.getElem?_append_right (by rw [keyC_length]; exact Nat.le_refl _), keyC_length]; rfl)
    exact this

set_option maxHeartbeats 1000000 in
theorem youngc_any (b : Nat) (now : Int) (W : World) (hc : W.cell? ⟨b, 0, none⟩ = some (.int .u64 now)) (hb : b < W.heap.size) (x : ItemV) :
    Calls Try.prog 52 #[.agg (itC x).toArray, .pointer (some ⟨b, 0, none⟩)] W (Gives (.bool (youngB now x)) W) := by
  have hB1 : Below W.heap.size W (W.alloc (.cells (itC x).toArray 55)) := (Below.refl _ _).alloc (Nat.le_refl _) _
  have hr1 : rowOf (W.alloc (.cells (itC x).toArray 55)) W.heap.size 0 33 = some (itC x) := rowOf_alloc_new _ _ _ _ _ _ rfl (itC_length x)
  have hc1 : (W.alloc (.cells (itC x).toArray 55)).cell? ⟨b, 0, none⟩ = some (.int .u64 now) := by rw [hB1.cell (p := ⟨b, 0, none⟩) hb]; exact hc
  obtain ⟨-, hat⟩ := it_at hr1
  rw [Nat.zero_add] at hat
  replace hc := Box.mk hc
  replace hr1 := Box.mk hr1
  have hs1 : (W.alloc (.cells (itC x).toArray 55)).heap.size = W.heap.size + 1 := by simp
  by_cases h : now < x.at_
  · have hy := youngB_lt h
    replace hy := Box.mk hy
    go_enter Try.func52, Try.ntmps52
    go_wp2
    go_ret
    exact gives_bool hy.out.symm hB1
  · have hy := youngB_ge h
    replace hy := Box.mk hy
    go_enter Try.func52, Try.ntmps52
    go_wp2
    go_ret
    exact gives_bool hy.out.symm hB1

theorem hasc_any (b : Nat) (k : Key) (W : World) (hc : rowOf W b 0 32 = some (keyC k)) (hb : b < W.heap.size) (x : ItemV) :
    Calls Try.prog 43 #[.agg (itC x).toArray, .pointer (some ⟨b, 0, none⟩)] W (Gives (.bool (x.id == k)) W) := by
  have hB1 : Below W.heap.size W (W.alloc (.cells (itC x).toArray 55)) := (Below.refl _ _).alloc (Nat.le_refl _) _
  have hr1 : rowOf (W.alloc (.cells (itC x).toArray 55)) W.heap.size 0 33 = some (itC x) := rowOf_alloc_new _ _ _ _ _ _ rfl (itC_length x)
  obtain ⟨hid, -⟩ := it_at hr1
  have hc1 : rowOf (W.alloc (.cells (itC x).toArray 55)) b 0 32 = some (keyC k) := by rw [rowOf_congr (hB1.block b hb)]; exact hc
  replace hc := Box.mk hc
  replace hr1 := Box.mk hr1
  go_enter Try.func43, Try.ntmps43
  go_wp2
  go_ret
  exact gives_bool rfl hB1

theorem putc_any (b : Nat) (k : Key) (W : World) (hc : rowOf W b 0 32 = some (keyC k)) (hb : b < W.heap.size) (x : ItemV) :
    Calls Try.prog 41 #[.agg (itC x).toArray, .pointer (some ⟨b, 0, none⟩)] W (Gives (.bool (!(x.id == k))) W) := by
  have hB1 : Below W.heap.size W (W.alloc (.cells (itC x).toArray 55)) := (Below.refl _ _).alloc (Nat.le_refl _) _
  have hr1 : rowOf (W.alloc (.cells (itC x).toArray 55)) W.heap.size 0 33 = some (itC x) := rowOf_alloc_new _ _ _ _ _ _ rfl (itC_length x)
  obtain ⟨hid, -⟩ := it_at hr1
  have hc1 : rowOf (W.alloc (.cells (itC x).toArray 55)) b 0 32 = some (keyC k) := by rw [rowOf_congr (hB1.block b hb)]; exact hc
  replace hc := Box.mk hc
  replace hr1 := Box.mk hr1
  go_enter Try.func41, Try.ntmps41
  go_wp2
  go_ret
  exact gives_bool rfl hB1

theorem enters_of {g : Nat} (h : ∀ args w, (callFunc g args).run Try.prog w = .ok (.enter g args) w) : ∀ args w, (callFunc g args).run Try.prog w = .ok (.enter g args) w := h
theorem ent_young (args : Array Value) (w : World) : (callFunc 52 args).run Try.prog w = .ok (.enter 52 args) w := by simp [go_sem]
theorem ent_has (args : Array Value) (w : World) : (callFunc 43 args).run Try.prog w = .ok (.enter 43 args) w := by simp [go_sem]
theorem ent_put (args : Array Value) (w : World) : (callFunc 41 args).run Try.prog w = .ok (.enter 41 args) w := by simp [go_sem]

set_option maxHeartbeats 1000000 in
theorem old_any (a : Option Addr) (n c : Nat) (l : List ItemV) (now : Int) (W : World) (h : IL W a n c l) (hn : n ≤ 100000) : Calls Try.prog 31 #[.slice a n c, .int .u64 now] W (IPost (l.filter (youngB now)) W) := by
  have hB1 : Below W.heap.size W (W.alloc (.cells #[.int .u64 now] 41)) := (Below.refl _ _).alloc (Nat.le_refl _) _
  have hc1 : (W.alloc (.cells #[.int .u64 now] 41)).cell? ⟨W.heap.size, 0, none⟩ = some (.int .u64 now) := by simp [go_sem]
  have hs1 : (W.alloc (.cells #[.int .u64 now] 41)).heap.size = W.heap.size + 1 := by simp
  have hy : Calls Try.prog 45 #[.int .u64 now] W (fun e w' => e = .returned (.func (.func 52) #[] #[.pointer (some ⟨W.heap.size, 0, none⟩)]) ∧ w' = W.alloc (.cells #[.int .u64 now] 41)) := by
    clear h hc1 hs1 hB1
    go_enter Try.func45, Try.ntmps45
    go_wp2
    go_ret
    exact ⟨rfl, rfl⟩
  have hp : PredOn (W.alloc (.cells #[.int .u64 now] 41)).heap.size 52 #[.pointer (some ⟨W.heap.size, 0, none⟩)] (youngB now) (W.alloc (.cells #[.int .u64 now] 41)) := fun w' hw x =>
    youngc_any W.heap.size now w' (by rw [hw.cell (p := ⟨W.heap.size, 0, none⟩) (by show W.heap.size < _; omega)]; exact hc1) (by have := hw.size; omega) x
  have hk := kept_any a n c l 52 #[.pointer (some ⟨W.heap.size, 0, none⟩)] (youngB now) ent_young _ (h.below hB1) hn hp
  replace hk := Box.mk hk
  replace hp := Box.mk hp
  replace h := Box.mk h
  replace hy := Box.mk hy
  go_enter Try.func31, Try.ntmps31
  go_wp2_with fail
  refine hy.out.mono ?_
  rintro e w1 ⟨rfl, hw1⟩
  rw [← hw1] at hk hB1
  replace hw1 := Box.mk hw1
  go_wp2_with fail
  refine hk.out.mono ?_
  rintro e w2 ⟨a2, n2, c2, rfl, hown, hb2⟩
  replace hown := Box.mk hown
  go_wp2
  go_ret
  exact ⟨_, _, _, rfl, hown.out.mono hB1.size, hB1.trans (hb2.mono hB1.size)⟩

end Go.Proofs.Ytghjpbmemogioaa
