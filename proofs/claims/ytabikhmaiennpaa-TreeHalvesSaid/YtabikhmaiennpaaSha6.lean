/- Package sha: Pad. strings.Builder's WriteByte; strings.Repeat. -/
import Derived.Test.YtabikhmaiennpaaSha5
import Derived.Test.YtabikhmaiennpaaBld
namespace Go.Proofs.Ytabikhmaiennpaa
open Go.RowKit Go.Shelf
set_option linter.unusedVariables false
set_option linter.unusedSimpArgs false
set_option maxRecDepth 100000

def ren167 : Go.Shelf.Ren := { Try.lays105_ren with f := fun | 167 => 33 | n => Try.lays105_ren.f n }
theorem lays167 : Go.Proofs.Lays.n167 Try.prog ren167 := { Try.lays105 with f167 := Try.func33.trans (congrArg some (by kernel_rfl)) }
theorem extra167 : Builder.Extra Try.prog ren167 := { Try.Builder_Extra_105 with }

theorem byteCells_one (c : UInt8) : Lib.byteCells [c] = [Value.int .u8 c.toNat] := rfl
theorem wb_any {b : Nat} {bs : List UInt8} (c : UInt8) {w : World} (h : Bld w b bs) (hlen : bs.length + 1 ≤ 1000000000) :
    Calls Try.prog 33 #[.pointer (some ⟨b, 0, none⟩), .int .u8 c.toNat] w fun e w' => e = .returned .nilIface ∧ Bld w' b (bs ++ [c]) ∧ Kp b w w' := by
  refine (Any.Builder_WriteByte_k lays167 extra167 b b (Lib.byteCells bs) c.toNat w h (by rw [Lib.byteCells_length]; omega) (Nat.le_of_lt h.lt)).mono ?_
  rintro e w' ⟨rfl, h1, h2, h3⟩
  refine ⟨rfl, .inr ?_, h2, h3⟩
  rw [Lib.byteCells_append, byteCells_one]
  exact h1
theorem repeatL_zero (c : Nat) : Lib.repeatL [(0 : UInt8)] c = List.replicate c 0 := by
  induction c with
  | zero => rfl
  | succ c ih => rw [List.replicate_succ, ← ih]; rfl
theorem rep_any (c : Nat) (w : World) (hc : c ≤ 1000) : Calls Try.prog 34 #[.string (sB [0]), .int .i64 c] w (Gives (.string (sB (List.replicate c 0))) w) := by
  refine (Try.strings_Repeat (sB [0]) c w (by omega) (by rw [sB_size]; simp; omega)).mono ?_
  rintro e w' ⟨rfl, h⟩
  refine ⟨?_, h⟩
  rw [← repeatL_zero]; rfl

theorem be8_take (n j : Nat) (h : j < 8) : (be8 n).take (j + 1) = (be8 n).take j ++ [UInt8.ofNat (n / 2 ^ (56 - 8 * j))] := by
  match j, h with
  | 0, _ => rfl
  | 1, _ => rfl
  | 2, _ => rfl
  | 3, _ => rfl
  | 4, _ => rfl
  | 5, _ => rfl
  | 6, _ => rfl
  | 7, _ => simp [be8]

attribute [local irreducible] Int.lt Int.le
set_option maxHeartbeats 2000000 in
theorem pad_any (s : List UInt8) (W : World) (hs : s.length ≤ 1000000) : Calls Try.prog 30 #[.string (sB s)] W (Gives (.string (sB (padL s))) W) := by
  go_enter Try.func30, Try.ntmps30
  have hB0 := Bld.new W W.heap.size rfl
  have hK0 : Below W.heap.size W (W.alloc (.cells #[.pointer none, .slice none 0 0] 66)) := (Below.refl _ _).alloc (Nat.le_refl _) _
  go_wp2_with fail
  generalize W.alloc (.cells #[.pointer none, .slice none 0 0] 66) = w0 at *
  obtain ⟨b, hb⟩ : ∃ b, W.heap.size = b := ⟨_, rfl⟩
  rw [hb] at hB0 hK0
  rw [hb]
  replace hb := Box.mk hb
  refine (ws_any s hB0 (by simp; omega)).mono ?_
  rintro e w1 ⟨rfl, hB1, hK1⟩
  replace hK1 := hK0.trans hK1.below
  rw [List.nil_append] at hB1
  clear hK0 hB0
  go_wp2_with fail
  refine (wb_any (b := b) 128 hB1 (by omega)).mono ?_
  rintro e w2 ⟨rfl, hB2, hK2⟩
  replace hK2 := hK1.trans hK2.below
  clear hK1 hB1
  go_wp2_with fail
  obtain ⟨r, hr⟩ : ∃ r, (119 - s.length % 64) % 64 = r := ⟨_, rfl⟩
  rw [show ((119 - (s.length : Int)) % 64) = ((r : Nat) : Int) from by omega]
  have hr64 : r < 64 := by omega
  refine (rep_any r w2 (by omega)).mono ?_
  rintro e w3 ⟨rfl, hb3⟩
  have hB3 := hB2.below hb3
  have hK3 : Below b W w3 := hK2.trans (hb3.mono (Nat.le_of_lt hB2.lt))
  clear hB2 hK2 hb3
  go_wp2_with fail
  refine (ws_any (List.replicate r 0) hB3 (by simp; omega)).mono ?_
  rintro e w4 ⟨rfl, hB4, hK4⟩
  replace hK4 := hK3.trans hK4.below
  clear hB3 hK3
  replace hr := Box.mk hr
  go_wp2_with fail
  go_loopw [5] (fun i wr => Below b W wr ∧ ∃ j : Nat, j ≤ 8 ∧ i = .int .i64 (56 - 8 * (j : Int)) ∧ Bld wr b (s ++ [128] ++ List.replicate r 0 ++ (be8 (s.length * 8)).take j)) (fun i _ => ((intOf i) + 8).toNat)
  case atStart => exact ⟨hK4, 0, by omega, rfl, by simpa using hB4⟩
  case round =>
    obtain ⟨hbr, j, hj, rfl, hB⟩ := hrel
    by_cases hlt : j < 8
    · have hge : (0 : Int) ≤ 56 - 8 * (j : Int) := by omega
      go_wp2_with fail
      rw [show ((s.length : Int) * 8 / 2 ^ (56 - 8 * j) % 256) = ((UInt8.ofNat (s.length * 8 / 2 ^ (56 - 8 * j))).toNat : Int) from by simp]
      have ht := be8_take (s.length * 8) j hlt
      have hl8 : ((be8 (s.length * 8)).take j).length ≤ 8 := by rw [List.length_take]; omega
      refine (wb_any (UInt8.ofNat (s.length * 8 / 2 ^ (56 - 8 * j))) hB (by simp; omega)).mono ?_
      rintro e w5 ⟨rfl, hB5, hK5⟩
      replace hK5 := hbr.trans hK5.below
      rw [List.append_assoc, ← ht] at hB5
      clear hB hbr
      replace ht := Box.mk ht
      go_wp2
      go_roundw
      case rel => exact ⟨hK5, j + 1, by omega, by congr 1; omega, hB5⟩
      case measure => simp [intOf]; omega
    · obtain rfl : j = 8 := by omega
      have hge : ¬ (0 : Int) ≤ 56 - 8 * ((8 : Nat) : Int) := by omega
      go_wp2_with fail
      refine (str_any hB).mono ?_
      rintro e w5 ⟨rfl, hB5, hK5⟩
      replace hK5 := hbr.trans hK5.below
      have hp : s ++ [128] ++ List.replicate r 0 ++ (be8 (s.length * 8)).take 8 = padL s := by
        unfold padL
        rw [hr.out, List.take_of_length_le (by simp [be8])]
        simp
      rw [hp]
      replace hp := Box.mk hp
      go_wp2
      go_ret
      exact ⟨rfl, by rw [hb.out]; exact hK5⟩

end Go.Proofs.Ytabikhmaiennpaa
