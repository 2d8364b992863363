/- The contracts of package slices at items: IndexFunc, ContainsFunc, Clone, DeleteFunc. -/
import Derived.Test.YtghjpbmemogioaaItem
import Derived.Test.YtghjpbmemogioaaBase
import Derived.WalkLawsBesides
import Derived.WalkSpells
import Derived.Lib.SliceRun
namespace Go.Proofs.Ytghjpbmemogioaa
set_option maxRecDepth 100000
open Go.RowKit
set_option linter.unusedVariables false
set_option linter.unusedSimpArgs false
attribute [local irreducible] Int.lt Int.le
attribute [local go_sem ↓] load_key store_key alloc_key build0_key eq_key load_it store_it alloc_it one_it make_it append_it build_it eq_it exec_clear
attribute [local go_sem] rowOf_drew rowOf_alloc_old rowOf_alloc_new canPut_drew canPut_alloc_old canPut_alloc_new setCells_alloc_new

/-- The function value answers p at every item, in every world that keeps what lies below B. -/
def PredOn (B g : Nat) (lb : Array Value) (p : ItemV → Bool) (W : World) : Prop := ∀ w', Below B W w' → ∀ x, Calls Try.prog g (#[.agg (itC x).toArray] ++ lb) w' (Gives (.bool (p x)) w')
theorem PredOn.to {B g : Nat} {lb : Array Value} {p : ItemV → Bool} {W w : World} (h : PredOn B g lb p W) (hb : Below B W w) : PredOn B g lb p w := fun w' hw x => h w' (hb.trans hw) x
theorem PredOn.mono {B B' g : Nat} {lb : Array Value} {p : ItemV → Bool} {W : World} (h : PredOn B g lb p W) (hb : B ≤ B') : PredOn B' g lb p W := fun w' hw x => h w' (hw.mono hb) x

def idxI (p : ItemV → Bool) (l : List ItemV) : Int := match l.findIdx? p with | some i => i | none => -1
theorem idxI_none {p : ItemV → Bool} {l : List ItemV} (h : ∀ t (ht : t < l.length), p l[t] = false) : idxI p l = -1 := by
  unfold idxI
  have : l.findIdx? p = none := by
    rw [List.findIdx?_eq_none_iff]
    intro x hx
    obtain ⟨t, ht, rfl⟩ := List.mem_iff_getElem.1 hx
    exact h t ht
  rw [this]
theorem idxI_some {p : ItemV → Bool} {l : List ItemV} {j : Nat} (hj : j < l.length) (h : ∀ t (ht : t < l.length), t < j → p l[t] = false) (hp : p l[j] = true) : idxI p l = j := by
  unfold idxI
  have : l.findIdx? p = some j := by
    rw [List.findIdx?_eq_some_iff_getElem]
    exact ⟨hj, hp, fun t ht => by rw [h t (by omega) ht]; simp⟩
  rw [this]

set_option maxHeartbeats 1000000 in
theorem idxf_any (a : Option Addr) (n c : Nat) (l : List ItemV) (g : Nat) (lb : Array Value) (p : ItemV → Bool) (eg : ∀ args w, (callFunc g args).run Try.prog w = .ok (.enter g args) w) (W : World) (h : IL W a n c l) (hn : n ≤ 100000) (hp : PredOn W.heap.size g lb p W) :
    Calls Try.prog 51 #[.slice a n c, .func (.func g) #[] lb] W (Gives (.int .i64 (idxI p l)) W) := by
  have hl := Box.mk h.1
  have H := Box.mk h
  replace hp := Box.mk hp
  clear h
  go_enter Try.func51, Try.ntmps51
  go_wp2_with fail
  go_loopw [8] (fun i wr => Below W.heap.size W wr ∧ ∃ j : Nat, j ≤ n ∧ i = .int .i64 j ∧ (∀ t (ht : t < l.length), t < j → p l[t] = false)) (fun i _ => n - (intOf i).toNat)
  case atStart => exact ⟨Below.refl _ _, 0, Nat.zero_le _, rfl, fun t ht h => by omega⟩
  case round =>
    obtain ⟨hbr, j, hj, rfl, hall⟩ := hrel
    have hsz := hbr.size
    by_cases hlt : j < n
    · have hlt' : (j : Int) < (n : Int) := by omega
      have hjl : j < l.length := by rw [← hl.out]; exact hlt
      have hx : l[j]? = some l[j] := List.getElem?_eq_getElem hjl
      obtain ⟨b, o, rfl, hb, hr⟩ := SL.elem itC_length H.out hx
      have R1 : rowOf wr b (o + j * 33) 33 = some (itC l[j]) := by rw [rowOf_congr (hbr.block b hb)]; exact hr
      have s1 : b < wr.heap.size := by omega
      have hcall := hp.out wr hbr l[j]
      replace hr := Box.mk hr
      replace hx := Box.mk hx
      cases hpj : p l[j]
      · rw [hpj] at hcall
        have hall2 : ∀ t (ht : t < l.length), t < j + 1 → p l[t] = false := fun t ht h => by
          rcases Nat.lt_succ_iff_lt_or_eq.1 h with h | h
          · exact hall t ht h
          · subst h; exact hpj
        replace hall := Box.mk hall2
        clear hall2
        replace hpj := Box.mk hpj
        generalize l[j] = v at *
        replace hcall := Box.mk hcall
        go_wp2_with fail
        refine hcall.out.mono ?_
        rintro e w2 ⟨rfl, hb2⟩
        go_wp2
        go_roundw
        case rel => exact ⟨since_next hbr hb2, j + 1, by omega, by go_num, hall.out⟩
        case measure => simp [intOf]; omega
      · rw [hpj] at hcall
        have hres := idxI_some hjl hall hpj
        replace hres := Box.mk hres
        replace hall := Box.mk hall
        replace hpj := Box.mk hpj
        generalize l[j] = v at *
        replace hcall := Box.mk hcall
        go_wp2_with fail
        refine hcall.out.mono ?_
        rintro e w2 ⟨rfl, hb2⟩
        go_wp2
        go_ret
        exact gives_int hres.out.symm (since_next hbr hb2)
    · obtain rfl : j = n := by omega
      have hres := idxI_none (p := p) (l := l) (fun t ht => hall t ht (by rw [hl.out]; exact ht))
      replace hres := Box.mk hres
      replace hall := Box.mk hall
      go_wp2
      go_ret
      exact gives_int hres.out.symm hbr

/-- A slice of items of the call's own. -/
def IPost (l : List ItemV) (w : World) (e : Ending) (w' : World) : Prop := ∃ a n c, e = .returned (.slice a n c) ∧ IOwn w' w.heap.size (.slice a n c) l ∧ Below w.heap.size w w'

set_option maxHeartbeats 1000000 in
theorem clone_any (a : Option Addr) (n c : Nat) (l : List ItemV) (W : World) (h : IL W a n c l) (hn : n ≤ 100000) : Calls Try.prog 49 #[.slice a n c] W (IPost l W) := by
  have hl := h.1
  have q22 : ∀ (w : World) (a : Option Addr) (n c n' c' : Nat), (binOp .eql 38 (.slice a n c) (.slice none n' c')).run Try.prog w = .ok (.bool a.isNone) w := fun w a n c n' c' => Lib.run_eql_slice_nil w _ _ a n c n' c' Try.underlying38
  cases a with
  | none =>
    have hc0 := h.2.2.2.1 rfl
    have hn0 : n = 0 := by have := h.2.1; omega
    have hl0 : l = [] := List.length_eq_zero_iff.1 (by omega)
    subst hc0 hn0 hl0
    clear h hl
    go_enter Try.func49, Try.ntmps49
    go_wp2
    go_ret
    exact ⟨_, _, _, rfl, Own.nil _ _ _ _ _, Below.refl _ _⟩
  | some x =>
    have hO := Own.empty itC 33 55 W W.heap.size W.heap.size rfl (Nat.le_refl _)
    have hB1 : Below W.heap.size W (W.alloc (.cells #[] 55)) := (Below.refl _ _).alloc (Nat.le_refl _) _
    obtain ⟨u5, n5, c5, w5, hap5, hown5, hb5, hs5, hn5, _⟩ := app_it (ty := 38) hO hB1.size (some x) n c l (h.below hB1) (by simp; omega)
    have hB5 := hB1.trans hb5
    rw [List.nil_append] at hown5
    replace h := Box.mk h
    replace hl := Box.mk hl
    replace hap5 := Box.mk hap5
    replace hown5 := Box.mk hown5
    replace hO := Box.mk hO
    clear hn5 hs5 hb5 hB1
    go_enter Try.func49, Try.ntmps49
    go_wp2_with fail
    rw [hap5.out]
    replace hap5 := Box.mk hap5
    go_wp2
    go_ret
    exact ⟨_, _, _, rfl, hown5.out, hB5⟩

end Go.Proofs.Ytghjpbmemogioaa
