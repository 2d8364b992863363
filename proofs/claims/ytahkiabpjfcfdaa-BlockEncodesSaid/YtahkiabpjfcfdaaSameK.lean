/- Layer 4's reference: are they the same keys? -/
import Derived.Test.YtahkiabpjfcfdaaBase2
import Derived.Test.YtahkiabpjfcfdaaBase
import Derived.Lib.Hide
namespace Go.Proofs.Ytahkiabpjfcfdaa
set_option maxRecDepth 100000
open Go.RowKit
set_option linter.unusedVariables false
set_option linter.unusedSimpArgs false
attribute [local go_sem ↓] load_key store_key alloc_key build0_key one_key make_key copy_key append_key eq_key
attribute [local go_sem] rowOf_drew rowOf_alloc_old rowOf_alloc_new canPut_drew canPut_alloc_old canPut_alloc_new setCells_alloc_new

/-- Are they the same keys? -/
theorem sameK_any (a b : Option Addr) (n m c d : Nat) (l r : List Key) (w : World) (h : SL keyC 32 w a n c l) (h' : SL keyC 32 w b m d r) (hl : n ≤ 100000) :
    Calls Try.prog 30 #[.slice a n c, .slice b m d] w (Gives (.bool (l == r)) w) := by
  obtain rfl := h.1
  obtain rfl := h'.1
  have H := Lib.hid h
  have H' := Lib.hid h'
  have hcl := h.2.1
  have hcr := h'.2.1
  clear h h'
  by_cases hlen : l.length = r.length
  · go_enter Try.func30, Try.ntmps30
    go_wp2_with fail
    go_loopw [5] (fun i wr => Since w wr ∧ ∃ j : Nat, j ≤ l.length ∧ i = .int .i64 j ∧ (l == r) = (l.drop j == r.drop j)) (fun i _ => l.length - (intOf i).toNat)
    case atStart => exact ⟨Below.refl _ _, 0, by omega, rfl, rfl⟩
    case round =>
      obtain ⟨hSi, j, hj, rfl, hfi⟩ := hrel
      have hsz := hSi.size
      have HF := Lib.hid hfi
      clear hfi
      by_cases hlt : j < l.length
      · have hx : l[j]? = some l[j] := List.getElem?_eq_getElem hlt
        have hlt' : j < r.length := by omega
        have hy : r[j]? = some r[j] := List.getElem?_eq_getElem hlt'
        obtain ⟨b1, o1, ha, hb1, hr1⟩ := KL.at (h := H.out) hx
        obtain ⟨b2, o2, hb, hb2, hr2⟩ := KL.at (h := H'.out) hy
        subst ha hb
        have R1 : rowOf wr b1 (o1 + j * 32) 32 = some (keyC l[j]) := by rw [rowOf_congr (hSi.block _ hb1)]; exact hr1
        have R2 : rowOf wr b2 (o2 + j * 32) 32 = some (keyC r[j]) := by rw [rowOf_congr (hSi.block _ hb2)]; exact hr2
        have hs1 : b1 < wr.heap.size := by omega
        have hs2 : b2 < wr.heap.size := by omega
        have hd : (l.drop j == r.drop j) = (l[j] == r[j] && l.drop (j + 1) == r.drop (j + 1)) := by
          rw [List.drop_eq_getElem_cons hlt, List.drop_eq_getElem_cons hlt', List.cons_beq_cons]
        generalize l[j] = x at *
        generalize r[j] = y at *
        have HD := Lib.hid hd
        clear hd hx hy hr1 hr2
        cases hxk : (x == y)
        · go_wp2
          (refine region_since (by kernel_rfl) (by kernel_rfl) ?_)
          repeat (first
            | (refine wpQuiet_goff rfl rfl rfl rfl ?_; simp only [Act.put, List.setIfInBounds_toArray, List.set_cons_succ, List.set_cons_zero])
            | (first
                 | refine wpQuiet_free rfl ?_
                 | refine wpQuiet_gon rfl rfl rfl rfl ?_
               apply Exists.intro
               refine ⟨fun w' hw' => ?_, ?_⟩
               · (obtain ⟨hc', hr', hs'⟩ := since_facts hw'
                  unfold Oper.quietAt
                  go_simp
                  try go_bits
                  first
                    | exact quietUpon_value rfl
                    | exact rfl
                    | (apply quietUpon_enter
                       first
                       | fail))
               simp only [Act.put, List.setIfInBounds_toArray, List.set_cons_succ, List.set_cons_zero]))
          first
            | refine wpQuiet_nil ?_
            | fail "QUIET stopped"
          intro wq hwq'
          go_wp2
          go_ret
          exact gives_bool (by rw [HF.out, HD.out, hxk]; rfl) (Below.of hwq' hSi.size hSi)
        · go_wp2
          (refine region_since (by kernel_rfl) (by kernel_rfl) ?_)
          repeat (first
            | (refine wpQuiet_goff rfl rfl rfl rfl ?_; simp only [Act.put, List.setIfInBounds_toArray, List.set_cons_succ, List.set_cons_zero])
            | (first
                 | refine wpQuiet_free rfl ?_
                 | refine wpQuiet_gon rfl rfl rfl rfl ?_
               apply Exists.intro
               refine ⟨fun w' hw' => ?_, ?_⟩
               · (obtain ⟨hc', hr', hs'⟩ := since_facts hw'
                  unfold Oper.quietAt
                  go_simp
                  try go_bits
                  first
                    | exact quietUpon_value rfl
                    | exact rfl
                    | (apply quietUpon_enter
                       first
                       | fail))
               simp only [Act.put, List.setIfInBounds_toArray, List.set_cons_succ, List.set_cons_zero]))
          first
            | refine wpQuiet_nil ?_
            | fail "QUIET stopped"
          intro wq hwq'
          go_wp2
          go_roundw
          case rel => exact ⟨Below.of hwq' hSi.size hSi, j + 1, by omega, by go_num, by rw [HF.out, HD.out, hxk]; rfl⟩
          case measure => simp [intOf]; omega
      · obtain rfl : j = l.length := by omega
        go_wp2
        go_ret
        exact gives_bool (by rw [HF.out, List.drop_length, hlen, List.drop_length]; rfl) hSi
  · go_enter Try.func30, Try.ntmps30
    go_wp2
    go_ret
    exact gives_bool (by rw [Bool.eq_iff_iff]; simp; intro h; exact hlen (by rw [h])) (Below.refl _ _)

end Go.Proofs.Ytahkiabpjfcfdaa
