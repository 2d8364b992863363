/- The last five that were put, in plain words. No walk. -/
import Derived.Test.YtghjpbmemogioaaRecentR2
import Derived.Test.YtghjpbmemogioaaRecentLaws
import Derived.Test.YtghjpbmemogioaaKey1
namespace Go.Proofs.Ytghjpbmemogioaa
open Go.RowKit
set_option linter.unusedVariables false
set_option linter.unusedSimpArgs false
set_option maxRecDepth 100000

/-- Of items the first of each name that is not in acc. -/
def ddx : List Key → List ItemV → List ItemV
  | _, [] => []
  | acc, y :: ys => if y.id ∈ acc then ddx acc ys else y :: ddx (acc ++ [y.id]) ys
theorem ddx_congr : ∀ (ys : List ItemV) (acc acc' : List Key), (∀ x, x ∈ acc ↔ x ∈ acc') → ddx acc ys = ddx acc' ys
  | [], _, _, _ => rfl
  | y :: ys, acc, acc', h => by
    unfold ddx
    by_cases hy : y.id ∈ acc
    · rw [if_pos hy, if_pos ((h _).1 hy)]; exact ddx_congr ys acc acc' h
    · rw [if_neg hy, if_neg (fun hh => hy ((h _).2 hh))]
      rw [ddx_congr ys (acc ++ [y.id]) (acc' ++ [y.id]) (fun x => by rw [List.mem_append, List.mem_append, h x])]
theorem ddx_cons (a : Key) : ∀ (ys : List ItemV) (acc : List Key), ddx (a :: acc) ys = (ddx acc ys).filter (fun x => !(x.id == a))
  | [], _ => rfl
  | y :: ys, acc => by
    by_cases hy : y.id ∈ acc
    · rw [ddx, if_pos (List.mem_cons_of_mem _ hy), ddx, if_pos hy]; exact ddx_cons a ys acc
    · by_cases ha : y.id = a
      · rw [ddx, if_pos (by rw [ha]; exact List.mem_cons_self), ddx, if_neg hy, List.filter_cons, if_neg (by simp [ha])]
        rw [← ddx_cons a ys (acc ++ [y.id])]
        refine ddx_congr ys _ _ fun x => ?_
        rw [ha]
        simp only [List.mem_cons, List.mem_append, List.not_mem_nil, or_false]
        constructor
        · intro h
          rcases h with h | h
          · exact .inl h
          · exact .inr (.inl h)
        · intro h
          rcases h with h | h | h
          · exact .inl h
          · exact .inr h
          · exact .inl h
      · rw [ddx, if_neg (fun h => (List.mem_cons.1 h).elim ha hy), ddx, if_neg hy, List.filter_cons, if_pos (by simpa using ha)]
        rw [← ddx_cons a ys (acc ++ [y.id])]
        rfl
theorem ddx_apart : ∀ (ys : List ItemV) (acc : List Key), (ddx acc ys).Pairwise (fun x y => x.id ≠ y.id) ∧ ∀ x ∈ ddx acc ys, x.id ∉ acc
  | [], _ => ⟨List.Pairwise.nil, fun x h => (List.not_mem_nil h).elim⟩
  | y :: ys, acc => by
    unfold ddx
    by_cases hy : y.id ∈ acc
    · rw [if_pos hy]; exact ddx_apart ys acc
    · rw [if_neg hy]
      obtain ⟨h1, h2⟩ := ddx_apart ys (acc ++ [y.id])
      refine ⟨List.pairwise_cons.2 ⟨fun x hx he => h2 x hx (by rw [← he]; simp), h1⟩, fun x hx => ?_⟩
      rcases List.mem_cons.1 hx with rfl | hx
      · exact hy
      · exact fun hh => h2 x hx (List.mem_append_left _ hh)
theorem take_strike (a : Key) : ∀ (Z : List ItemV) (n : Nat), Z.Pairwise (fun x y => x.id ≠ y.id) → ((Z.take (n + 1)).filter (fun x => !(x.id == a))).take n = (Z.filter (fun x => !(x.id == a))).take n
  | [], n, _ => by simp
  | z :: Z, n, h => by
    obtain ⟨h1, h2⟩ := List.pairwise_cons.1 h
    rw [List.take_succ_cons]
    by_cases hz : z.id = a
    · rw [List.filter_cons, if_neg (by simp [hz]), List.filter_cons, if_neg (by simp [hz])]
      have hall : ∀ W : List ItemV, (∀ x ∈ W, x ∈ Z) → W.filter (fun x => !(x.id == a)) = W := fun W hW => List.filter_eq_self.2 fun x hx => by
        have := h1 x (hW x hx)
        rw [hz] at this
        simpa using fun e => this e.symm
      rw [hall _ (fun x hx => List.mem_of_mem_take hx), hall _ (fun x hx => hx), List.take_take, Nat.min_self]
    · rw [List.filter_cons, if_pos (by simpa using hz), List.filter_cons, if_pos (by simpa using hz)]
      cases n with
      | zero => rfl
      | succ n => rw [List.take_succ_cons, List.take_succ_cons, take_strike a Z n h2]
theorem putL_rev (l : List ItemV) (k : Key) (now : Int) : (putL l k now).reverse = (⟨k, now⟩ :: l.reverse.filter (fun x => !(x.id == k))).take 5 := by
  unfold putL putA
  have hr : (l.filter (fun x : ItemV => !(x.id == k)) ++ [(⟨k, now⟩ : ItemV)]).reverse = (⟨k, now⟩ : ItemV) :: l.reverse.filter (fun x => !(x.id == k)) := by
    rw [List.reverse_append, List.filter_reverse]; rfl
  rw [← hr, List.reverse_drop]
  generalize l.filter (fun x : ItemV => !(x.id == k)) ++ [(⟨k, now⟩ : ItemV)] = X
  by_cases h : 5 ≤ X.length
  · rw [show X.length - (X.length - 5) = 5 from by omega]
  · rw [List.take_of_length_le (by rw [List.length_reverse]; omega), List.take_of_length_le (by rw [List.length_reverse]; omega)]

/-! ### The puts -/
def kB (x : Nat) : Key := key1 (UInt8.ofNat x)
theorem kB_inj {x y : Nat} (hx : x < 256) (hy : y < 256) (h : kB x = kB y) : x = y := by
  unfold kB key1 at h
  have h1 := congrArg (fun k : Key => k.val) h
  injection h1 with h1 _
  have h2 := congrArg UInt8.toNat h1
  simp at h2
  omega
/-- The item of put i. -/
def itA (ids : List Nat) (g i : Nat) : ItemV := ⟨kB (ids.getD i 0), ((g * (i + 1) : Nat) : Int)⟩
/-- The first i puts, the last one ahead. -/
def histR (ids : List Nat) (g : Nat) : Nat → List ItemV
  | 0 => []
  | i + 1 => itA ids g i :: histR ids g i
/-- The list behind i puts. -/
structure LastL (ids : List Nat) (g i : Nat) (l : List ItemV) : Prop where
  rev : l.reverse = (ddx [] (histR ids g i)).take 5
theorem LastL.zero (ids : List Nat) (g : Nat) : LastL ids g 0 [] := ⟨rfl⟩
theorem LastL.put {ids : List Nat} {g i : Nat} {l : List ItemV} (h : LastL ids g i l) : LastL ids g (i + 1) (putL l (kB (ids.getD i 0)) ((g * (i + 1) : Nat) : Int)) := by
  refine ⟨?_⟩
  rw [putL_rev, h.rev]
  show _ = (ddx [] (itA ids g i :: histR ids g i)).take 5
  rw [ddx, if_neg List.not_mem_nil]
  show _ = (itA ids g i :: ddx (kB (ids.getD i 0) :: []) (histR ids g i)).take 5
  rw [ddx_cons, List.take_succ_cons, List.take_succ_cons, take_strike _ _ 4 (ddx_apart _ _).1]
  rfl

/-- What has been seen, going back, where r puts are left: the names S. -/
structure SeenL (ids : List Nat) (g n r : Nat) (S : List Nat) : Prop where
  h : ∃ D : List ItemV, ddx [] (histR ids g n) = D ++ ddx (D.map (·.id)) (histR ids g r) ∧ S.map kB = (D.map (·.id)).take 5
  lt : ∀ x ∈ S, x < 256
theorem SeenL.start (ids : List Nat) (g n : Nat) : SeenL ids g n n [] := ⟨⟨[], rfl, rfl⟩, fun x h => (List.not_mem_nil h).elim⟩
theorem SeenL.few {ids : List Nat} {g n r : Nat} {S : List Nat} (h : SeenL ids g n r S) : S.length ≤ 5 := by
  obtain ⟨⟨D, _, h2⟩, _⟩ := h
  have := congrArg List.length h2
  rw [List.length_map, List.length_take] at this
  omega
/-- A new name, and room for it: it is there just as long as it is young. -/
theorem SeenL.new {ids : List Nat} {g n i : Nat} {S : List Nat} {l : List ItemV} (h : SeenL ids g n (i + 1) S) (hl : LastL ids g n l) (hlt : ids.getD i 0 < 256) (hS : ids.getD i 0 ∉ S) (h5 : S.length < 5) (now : Int) :
    SeenL ids g n i (S ++ [ids.getD i 0]) ∧ hasB l (kB (ids.getD i 0)) now = youngB now (itA ids g i) := by
  obtain ⟨⟨D, h1, h2⟩, h3⟩ := h
  have hlen := congrArg List.length h2
  rw [List.length_map, List.length_take, List.length_map] at hlen
  have hD5 : D.length < 5 := by omega
  have hSD : S.map kB = D.map (·.id) := by rw [h2, List.take_of_length_le (by rw [List.length_map]; omega)]
  have hnot : (itA ids g i).id ∉ D.map (·.id) := by
    rw [← hSD]
    intro hm
    obtain ⟨x, hx, he⟩ := List.mem_map.1 hm
    exact hS (by rw [← kB_inj (h3 x hx) hlt he]; exact hx)
  have h4 : ddx [] (histR ids g n) = D ++ itA ids g i :: ddx (D.map (·.id) ++ [(itA ids g i).id]) (histR ids g i) := by
    rw [h1]
    show D ++ ddx (D.map (·.id)) (itA ids g i :: histR ids g i) = _
    rw [ddx, if_neg hnot]
  refine ⟨⟨⟨D ++ [itA ids g i], ?_, ?_⟩, fun x hx => ?_⟩, ?_⟩
  · rw [h4, List.map_append, List.append_assoc]; rfl
  · rw [List.map_append, List.map_append, hSD, List.take_of_length_le (by simp; omega)]; rfl
  · rcases List.mem_append.1 hx with hx | hx
    · exact h3 x hx
    · rw [List.mem_singleton.1 hx]; exact hlt
  · have hmem : itA ids g i ∈ l := by
      rw [← List.mem_reverse, hl.rev, h4]
      rw [List.take_append, List.mem_append]
      right
      obtain ⟨q, hq⟩ : ∃ q, 5 - D.length = q + 1 := ⟨4 - D.length, by omega⟩
      rw [hq, List.take_succ_cons]
      exact List.mem_cons_self
    have hap : ∀ x ∈ l, x.id = kB (ids.getD i 0) → x = itA ids g i := by
      intro x hx he
      have hxm : x ∈ ddx [] (histR ids g n) := List.mem_of_mem_take (by rw [← hl.rev, List.mem_reverse]; exact hx)
      have hym : itA ids g i ∈ ddx [] (histR ids g n) := by rw [h4]; simp
      have hp := (ddx_apart (histR ids g n) []).1
      have : ∀ (Z : List ItemV), Z.Pairwise (fun x y => x.id ≠ y.id) → ∀ x ∈ Z, ∀ y ∈ Z, x.id = y.id → x = y := by
        intro Z
        induction Z with
        | nil => intro _ x hx; exact (List.not_mem_nil hx).elim
        | cons z Z ih =>
          intro hp x hx y hy he
          obtain ⟨p1, p2⟩ := List.pairwise_cons.1 hp
          rcases List.mem_cons.1 hx with e1 | e1
          · rcases List.mem_cons.1 hy with e2 | e2
            · rw [e1, e2]
            · rw [e1] at he; exact absurd he (p1 y e2)
          · rcases List.mem_cons.1 hy with e2 | e2
            · rw [e2] at he; exact absurd he.symm (p1 x e1)
            · exact ih p2 x e1 y e2 he
      exact this _ hp x hxm _ hym he
    rw [hasB_any]
    cases hy : youngB now (itA ids g i) with
    | true =>
      refine List.any_eq_true.2 ⟨itA ids g i, hmem, ?_⟩
      rw [hy, Bool.and_true]
      exact beq_self_eq_true _
    | false =>
      rw [List.any_eq_false]
      intro x hx hh
      rw [Bool.and_eq_true, beq_iff_eq] at hh
      rw [hap x hx hh.1, hy] at hh
      exact absurd hh.2 (by decide)
/-- One that was seen, or no room: nothing more is seen. -/
theorem SeenL.old {ids : List Nat} {g n i : Nat} {S : List Nat} (h : SeenL ids g n (i + 1) S) (ho : ids.getD i 0 ∈ S ∨ ¬ S.length < 5) : SeenL ids g n i S := by
  obtain ⟨⟨D, h1, h2⟩, h3⟩ := h
  have hlen := congrArg List.length h2
  rw [List.length_map, List.length_take, List.length_map] at hlen
  by_cases hm : (itA ids g i).id ∈ D.map (·.id)
  · refine ⟨⟨D, ?_, h2⟩, h3⟩
    rw [h1]
    show D ++ ddx (D.map (·.id)) (itA ids g i :: histR ids g i) = _
    rw [ddx, if_pos hm]
  · have h5 : ¬ S.length < 5 := by
      rcases ho with ho | ho
      · exfalso
        apply hm
        have : kB (ids.getD i 0) ∈ S.map kB := List.mem_map_of_mem ho
        rw [h2] at this
        exact List.mem_of_mem_take this
      · exact ho
    refine ⟨⟨D ++ [itA ids g i], ?_, ?_⟩, h3⟩
    · rw [h1]
      show D ++ ddx (D.map (·.id)) (itA ids g i :: histR ids g i) = _
      rw [ddx, if_neg hm, List.map_append, List.append_assoc]; rfl
    · rw [h2, List.map_append, List.take_append_of_le_length (by rw [List.length_map]; omega)]
/-- At the end nothing is there that was not seen. -/
theorem SeenL.fin {ids : List Nat} {g n : Nat} {S : List Nat} {l : List ItemV} (h : SeenL ids g n 0 S) (hl : LastL ids g n l) {k : Nat} (hk : k ∉ S) (hlt : k < 256) (now : Int) : hasB l (kB k) now = false := by
  obtain ⟨⟨D, h1, h2⟩, h3⟩ := h
  rw [histR, ddx, List.append_nil] at h1
  rw [hasB_any, List.any_eq_false]
  intro x hx hh
  rw [Bool.and_eq_true, beq_iff_eq] at hh
  have hxm : x ∈ D.take 5 := by rw [← h1, ← hl.rev, List.mem_reverse]; exact hx
  have : x.id ∈ (D.map (·.id)).take 5 := by rw [← List.map_take]; exact List.mem_map_of_mem hxm
  rw [← h2] at this
  obtain ⟨y, hy, he⟩ := List.mem_map.1 this
  rw [hh.1] at he
  exact hk (by rw [← kB_inj (h3 y hy) hlt he]; exact hy)
end Go.Proofs.Ytghjpbmemogioaa
