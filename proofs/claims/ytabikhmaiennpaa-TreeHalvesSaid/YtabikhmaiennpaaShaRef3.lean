/- Layer 1: the document's Pad. -/
import Derived.Test.YtabikhmaiennpaaShaRef2
import Derived.Test.YtabikhmaiennpaaBase
namespace Go.Proofs.Ytabikhmaiennpaa
open Go.RowKit
set_option linter.unusedVariables false
set_option linter.unusedSimpArgs false
set_option maxRecDepth 100000

/-- '[]byte(s)': bytes of the call's own. -/
theorem conv_mark (w : World) (l : List UInt8) (hl : l.length ≤ 1000000) : ∃ g cap w', (convert 9 51 (.string (sB l))).run Try.prog w = .ok (.slice (some ⟨g, 0, none⟩) l.length cap) w' ∧ Below w.heap.size w w' ∧ OwnM w' w.heap.size 5 (.slice (some ⟨g, 0, none⟩) l.length cap) (bC l) ∧ w.heap.size ≤ w'.heap.size := by
  have h := run_bytes_of_string (P := Try.prog) w 9 51 5 (sB l) Try.underlying9 Try.underlying51 Try.underlying5
  rw [sB_size] at h
  have hge := grownCap_ge w l.length 0 5
  have hle := grownCap_le_maxLen w l.length 0 5 (by unfold maxLen; omega)
  have hcs : (bytesRow (sB l) (grownCap w l.length 0 5)).size = grownCap w l.length 0 5 := by unfold bytesRow; simp only [Array.size_append, Array.size_map, Array.size_replicate]; show (sB l).size + (_ - (sB l).size) = _; rw [sB_size]; omega
  refine ⟨_, _, _, h, ((Below.refl _ _).drew).alloc (Nat.le_refl _) _, ⟨w.heap.size, _, _, _, by rw [bC_length], Nat.le_refl _, heap_alloc_new w.drew _, .inr (by simp only [hcs]; exact Nat.le_refl _), by rw [bC_length]; exact hge, hle, hcs, ?_⟩, ?_⟩
  · rw [bC_length]
    unfold bytesRow bC sB
    simp [Array.extract_append]
    exact fun a _ => rfl
  · simp
theorem app_mark {w : World} {base : Nat} {v : Value} {l : List UInt8} {ty : TypeId} (hown : OwnM w base 5 v (bC l)) (hbase : base ≤ w.heap.size) (x : UInt8) (u : Value) (hu : u = .int .u8 (x.toNat : Int)) (hlen : l.length + 1 ≤ 2000000) :
    ∃ g c' w', appTo Try.prog 51 ty (w.alloc (.cells #[u] 5)) v (.slice (some ⟨w.heap.size, 0, none⟩) 1 1) = .ok (.value (.slice (some ⟨g, 0, none⟩) (l.length + 1) c')) w' ∧ OwnM w' base 5 (.slice (some ⟨g, 0, none⟩) (l.length + 1) c') (bC (l ++ [x])) ∧ Below base w w' ∧ w.heap.size ≤ w'.heap.size := by
  obtain ⟨i, hi, hs, hb, hz⟩ := info_u8
  subst hu
  obtain ⟨g, c', w', h1, h2, h3, h4⟩ := appTo_mark (ty := ty) Try.underlying51 hi hs hb hz rfl (by omega) hown hbase (.int .u8 (x.toNat : Int)) rfl (by rw [bC_length]; exact hlen)
  rw [bC_length] at h1 h2
  refine ⟨g, c', w', h1, ?_, h3, h4⟩
  have e : bC (l ++ [x]) = bC l ++ [.int .u8 (x.toNat : Int)] := by rw [bC_append]; unfold bC; rfl
  rw [e]
  exact h2
theorem run_string_mark {w : World} {base g n cap : Nat} {l : List UInt8} (h : OwnM w base 5 (.slice (some ⟨g, 0, none⟩) n cap) (bC l)) : (convert 51 9 (.slice (some ⟨g, 0, none⟩) n cap)).run Try.prog w = .ok (.string (sB l)) w := by
  have hr := h.row
  rw [bC_length] at hr
  obtain ⟨rfl, _⟩ := hr
  refine run_convert_bytes_back w _ _ 5 ⟨g, 0, none⟩ cap l Try.underlying51 Try.underlying5 Try.underlying9 fun j hj => ?_
  have hl : l[j]? = some l[j] := List.getElem?_eq_getElem hj
  rw [Addr.add_mid, Nat.zero_add]
  exact h.cell (bC_get hl)

def slLen : Value → Nat
  | .slice _ n _ => n
  | _ => 0
attribute [local irreducible] Int.lt Int.le
attribute [local go_sem ↓] append_u8

set_option maxHeartbeats 2000000 in
theorem refPad_any (s : List UInt8) (W : World) (hs : s.length ≤ 1000000) : Calls Try.prog 23 #[.string (sB s)] W (Gives (.string (sB (padL s))) W) := by
  obtain ⟨r, hr⟩ : ∃ r, (119 - s.length % 64) % 64 = r := ⟨_, rfl⟩
  have hpad : padL s = s ++ [128] ++ List.replicate r 0 ++ (be8 (s.length * 8)).take 8 := by
    unfold padL
    rw [hr, List.take_of_length_le (by simp [be8])]
    simp
  rw [hpad]
  replace hpad := Box.mk hpad
  replace hr := Box.mk hr
  go_enter Try.func23, Try.ntmps23
  go_wp2_with fail
  obtain ⟨g1, c1, w1, hcv, hb1, ho1, hz1⟩ := conv_mark W s hs
  rw [hcv]
  go_wp2_with fail
  obtain ⟨g2, c2, w2, hap, ho2, hb2, hz2⟩ := app_mark (ty := 51) ho1 hz1 128 (.int .u8 128) rfl (by omega)
  rw [hap]
  replace hb2 := hb1.trans hb2
  replace hz2 := hb2.size
  clear hcv hb1 ho1 hap
  go_wp2_with fail
  have hl2 : (s ++ [128]).length = s.length + 1 := by simp
  rw [← List.append_nil (s ++ [128])] at ho2
  go_loopw [3] (fun v wr => Below W.heap.size W wr ∧ ∃ j m g c, j ≤ r ∧ m = s.length + 1 + j ∧ v = .slice (some ⟨g, 0, none⟩) m c ∧ OwnM wr W.heap.size 5 (.slice (some ⟨g, 0, none⟩) m c) (bC (s ++ [128] ++ List.replicate j 0))) (fun v _ => s.length + 1 + r - slLen v)
  case atStart => exact ⟨hb2, 0, _, _, _, Nat.zero_le _, rfl, rfl, ho2⟩
  case round =>
    obtain ⟨hbr, j, m, g, c, hj, hm, rfl, hown⟩ := hrel
    have hsz := hbr.size
    have hm2 : (m : Int) ≤ 1000100 := by have := hr.out; omega
    by_cases hlt : j < r
    · have hne : ¬ ((m : Int) % 64 = 56) := by have := hr.out; omega
      have hlm : (s ++ [128] ++ List.replicate j 0).length = m := by simp; omega
      obtain ⟨g', c', w', hap, hown', hb', hs'⟩ := app_mark (ty := 51) hown hsz 0 (.int .u8 0) rfl (by rw [hlm]; omega)
      rw [hlm] at hap hown'
      rw [List.append_assoc (s ++ [128]), ← List.replicate_succ'] at hown'
      replace hlm := Box.mk hlm
      replace hm := Box.mk hm
      go_wp2_with fail
      exact ⟨⟨hbr.trans hb', j + 1, m + 1, g', c', by omega, by have := hm.out; omega, rfl, hown'⟩, by have := hm.out; simp only [slLen]; omega⟩
    · obtain rfl : j = r := by omega
      have heq : (m : Int) % 64 = 56 := by have := hr.out; omega
      replace hm := Box.mk hm
      have hB8 : bC (s ++ [128] ++ List.replicate j 0) = bC (s ++ [128] ++ List.replicate j 0 ++ (be8 (s.length * 8)).take 0) := by simp
      rw [hB8] at hown
      replace hB8 := Box.mk hB8
      go_wp2_with fail
      go_loopw [3, 5] (fun v x wr => Below W.heap.size W wr ∧ ∃ k m g c, k ≤ 8 ∧ m = s.length + 1 + j + k ∧ x = .int .i64 (7 - (k : Int)) ∧ v = .slice (some ⟨g, 0, none⟩) m c ∧ OwnM wr W.heap.size 5 (.slice (some ⟨g, 0, none⟩) m c) (bC (s ++ [128] ++ List.replicate j 0 ++ (be8 (s.length * 8)).take k))) (fun _ x _ => ((intOf x) + 1).toNat)
      case atStart => exact ⟨hbr, 0, _, _, _, Nat.zero_le _, by have := hm.out; omega, by congr 1, rfl, hown⟩
      case round =>
        clear hbr hown
        obtain ⟨hbr, k, m, g, c, hk, hm, rfl, rfl, hown⟩ := hrel
        have hsz := hbr.size
        by_cases hlt : k < 8
        · obtain ⟨i, hi⟩ : ∃ i : Nat, 7 - (k : Int) = i := ⟨7 - k, by omega⟩
          rw [hi]
          have hi0 : (0 : Int) ≤ i := by omega
          have hi7 : (i : Int) ≤ 7 := by omega
          have ht := be8_take (s.length * 8) k hlt
          rw [show 56 - 8 * k = 8 * i from by omega, pow_two_256] at ht
          have hlm : (s ++ [128] ++ List.replicate j 0 ++ (be8 (s.length * 8)).take k).length = m := by
            have : ((be8 (s.length * 8)).take k).length = k := by rw [List.length_take, show (be8 (s.length * 8)).length = 8 from rfl]; omega
            rw [List.length_append, this]; simp; omega
          obtain ⟨g', c', w', hap, hown', hb', hs'⟩ := app_mark (ty := 51) hown hsz (UInt8.ofNat (s.length * 8 / 256 ^ i)) (.int .u8 (((s.length : Int) * 8) / 2 ^ (8 * i) % 256)) (by rw [← shr_byte]; simp) (by rw [hlm]; have := hr.out; omega)
          rw [hlm] at hap hown'
          rw [List.append_assoc _ ((be8 (s.length * 8)).take k), ← ht] at hown'
          replace ht := Box.mk ht
          replace hlm := Box.mk hlm
          replace hm := Box.mk hm
          replace hi := Box.mk hi
          go_wp2_with fail
          exact ⟨⟨hbr.trans hb', k + 1, m + 1, g', c', by omega, by have := hm.out; omega, by congr 1; have := hi.out; omega, rfl, hown'⟩, by have := hi.out; simp only [intOf]; omega⟩
        · obtain rfl : k = 8 := by omega
          have hge : ¬ (0 : Int) ≤ 7 - ((8 : Nat) : Int) := by omega
          replace hm := Box.mk hm
          go_wp2_with fail
          rw [run_string_mark hown]
          go_wp2
          go_ret
          exact gives (by simp) hbr

end Go.Proofs.Ytabikhmaiennpaa
