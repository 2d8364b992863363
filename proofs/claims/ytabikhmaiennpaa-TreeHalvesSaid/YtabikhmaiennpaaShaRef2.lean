/- Layer 1: the document's rot, Words. -/
import Derived.Test.YtabikhmaiennpaaShaRef
namespace Go.Proofs.Ytabikhmaiennpaa
open Go.RowKit
set_option linter.unusedVariables false
set_option linter.unusedSimpArgs false
set_option maxRecDepth 100000

theorem rot_int' (x : UInt32) (n m : Nat) (h : n + m = 32) (h1 : 1 ≤ n) : bits .or .u32 (iw x / 2 ^ n) (iw x * 2 ^ m % 4294967296) = iw (rotr x n) := by
  simp only [iw_eq]
  have e1 : ((x.toNat : Int) * 2 ^ m % 4294967296) = ((x.toNat * 2 ^ m % 4294967296 : Nat) : Int) := by simp
  have e2 : ((x.toNat : Int) / 2 ^ n) = ((x.toNat / 2 ^ n : Nat) : Int) := by simp
  have hx := x.toNat_lt
  rw [e1, e2, u32_or_nat _ _ (Nat.lt_of_le_of_lt (Nat.div_le_self _ _) hx) (Nat.mod_lt _ (by decide)), Nat.or_comm, rot_nat x n m h h1]

attribute [local irreducible] Int.lt Int.le
set_option maxHeartbeats 1000000 in
theorem refRot_any (x : UInt32) (n : Nat) (W : World) (h1 : 1 ≤ n) (h2 : n ≤ 31) : Calls Try.prog 28 #[.int .u32 (iw x), .int .i64 (n : Int)] W (Gives (.int .u32 (iw (rotr x n))) W) := by
  obtain ⟨m, hm⟩ : ∃ m, m = 32 - n := ⟨_, rfl⟩
  have hm1 : m ≤ 31 := by omega
  have hx := rot_int' x n m (by omega) h1
  have hn0 : ((32 : Int) - n) = m := by omega
  replace hm := Box.mk hm
  replace hx := Box.mk hx
  go_enter Try.func28, Try.ntmps28
  go_wp2_with fail
  (refine region_since (by kernel_rfl) (by kernel_rfl) ?_)
  repeat (first
    | (refine wpQuiet_goff rfl rfl rfl rfl ?_; simp only [Act.put, List.setIfInBounds_toArray, List.set_cons_succ, List.set_cons_zero])
    | (first
         | refine wpQuiet_free rfl ?_
         | refine wpQuiet_gon rfl rfl rfl rfl ?_
       apply Exists.intro
       refine ⟨fun w' hw' => ?_, ?_⟩
       · (obtain ⟨hc', hr', hs'⟩ := since_facts hw'
          unfold Oper.quietAt
          go_simp
          try go_bits
          first
            | exact quietUpon_value rfl
            | exact rfl
            | (apply quietUpon_enter
               first
               | fail))
       simp only [Act.put, List.setIfInBounds_toArray, List.set_cons_succ, List.set_cons_zero]))
  first
    | refine wpQuiet_nil ?_
    | fail "QUIET stopped"
  intro wq hwq'
  go_wp2
  go_ret
  exact gives_int hx.out hwq'

/-! ### append to words -/
theorem append_u32 (ρ : Operand → Value) (dst : Option Tmp) (x y : Operand) (ty : TypeId) (pos : String) (after : Array Edge) (guard : Option (Nat × Bool)) (w : World) :
    (execOp ρ ⟨dst, .call { callee := .builtin .append, args := #[x, y], argTypes := #[57, 57] }, ty, pos, after, guard⟩).run Try.prog w = appTo Try.prog 57 ty w (ρ x) (ρ y) :=
  exec_append _ ty ρ dst x y pos after guard w
/-- A slice of words of the call's own. -/
abbrev OwnU (w : World) (base : Nat) (v : Value) (l : List UInt32) : Prop := OwnV w base 25 v (uC l)
theorem uC_nil : uC [] = [] := by unfold uC; rfl
theorem app_u32 {w : World} {base : Nat} {v : Value} {l : List UInt32} {ty : TypeId} (hown : OwnU w base v l) (hbase : base ≤ w.heap.size) (x : UInt32) (u : Value) (hu : u = .int .u32 (iw x)) (hlen : l.length + 1 ≤ 2000000) :
    ∃ g c' w', appTo Try.prog 57 ty (w.alloc (.cells #[u] 25)) v (.slice (some ⟨w.heap.size, 0, none⟩) 1 1) = .ok (.value (.slice (some ⟨g, 0, none⟩) (l.length + 1) c')) w' ∧ OwnU w' base (.slice (some ⟨g, 0, none⟩) (l.length + 1) c') (l ++ [x]) ∧ Below base w w' ∧ w.heap.size ≤ w'.heap.size := by
  obtain ⟨i, hi, hs, hb, hz⟩ := info_u32
  subst hu
  obtain ⟨g, c', w', h1, h2, h3, h4⟩ := appTo_val' (ty := ty) Try.underlying57 hi hs hb hz rfl (by omega) hown hbase (.int .u32 (iw x)) rfl (by rw [uC_length]; exact hlen)
  rw [uC_length] at h1 h2
  refine ⟨g, c', w', h1, ?_, h3, h4⟩
  have e : uC (l ++ [x]) = uC l ++ [.int .u32 (iw x)] := by rw [uC_append]; unfold uC; rfl
  show OwnV _ _ _ _ (uC (l ++ [x]))
  rw [e]
  exact h2

/-! ### Words -/
theorem u8w (b : UInt8) : (b.toNat : Int) % (4294967296 : Int) = iw b.toUInt32 := by
  have := b.toNat_lt
  rw [iw_eq]; simp; omega
theorem shl24 (x : UInt32) : (iw x * (16777216 : Int)) % (4294967296 : Int) = iw (x <<< 24) := by
  simp only [iw_eq]
  rw [show ((x.toNat : Int) * (16777216 : Int)) % (4294967296 : Int) = ((x.toNat * 16777216 % 4294967296 : Nat) : Int) from by simp, UInt32.toNat_shiftLeft, Nat.shiftLeft_eq]
  rfl
theorem shl16 (x : UInt32) : (iw x * (65536 : Int)) % (4294967296 : Int) = iw (x <<< 16) := by
  simp only [iw_eq]
  rw [show ((x.toNat : Int) * (65536 : Int)) % (4294967296 : Int) = ((x.toNat * 65536 % 4294967296 : Nat) : Int) from by simp, UInt32.toNat_shiftLeft, Nat.shiftLeft_eq]
  rfl
theorem pw4 (a b c d : UInt8) : pw [a, b, c, d] = a.toUInt32 <<< 24 ||| b.toUInt32 <<< 16 ||| c.toUInt32 <<< 8 ||| d.toUInt32 := by
  show (((((0 : UInt32) <<< 8 ||| a.toUInt32) <<< 8 ||| b.toUInt32) <<< 8 ||| c.toUInt32) <<< 8 ||| d.toUInt32) = _
  generalize a.toUInt32 = x
  generalize b.toUInt32 = y
  generalize c.toUInt32 = z
  generalize d.toUInt32 = u
  have h0 : (0 : UInt32) <<< 8 ||| x = x := by simp
  have d1 : ∀ (p q : UInt32), (p ||| q) <<< 8 = p <<< 8 ||| q <<< 8 := fun p q => by
    apply UInt32.toBitVec_inj.1
    simp only [UInt32.toBitVec_or, UInt32.toBitVec_shiftLeft, BitVec.shiftLeft_eq', BitVec.shiftLeft_or_distrib]
  have s2 : ∀ p : UInt32, p <<< 8 <<< 8 = p <<< 16 := fun p => by
    apply UInt32.toNat_inj.1
    simp only [UInt32.toNat_shiftLeft, Nat.shiftLeft_eq]
    show p.toNat * 256 % 4294967296 * 256 % 4294967296 = p.toNat * 65536 % 4294967296
    omega
  have s3 : ∀ p : UInt32, p <<< 8 <<< 16 = p <<< 24 := fun p => by
    apply UInt32.toNat_inj.1
    simp only [UInt32.toNat_shiftLeft, Nat.shiftLeft_eq]
    show p.toNat * 256 % 4294967296 * 65536 % 4294967296 = p.toNat * 16777216 % 4294967296
    omega
  rw [h0, d1, d1, d1, s2, s2, s3]
theorem wordsL_get {s : List UInt8} {j : Nat} (h : j < s.length / 4) : (wordsL s)[j]? = some (pw ((s.drop (4 * j)).take 4)) := by
  unfold wordsL
  rw [List.getElem?_map, List.getElem?_range h]; rfl
theorem drop4 {s : List UInt8} {i i1 i2 i3 : Nat} (h : i + 4 ≤ s.length) (h1 : i + 1 = i1) (h2 : i + 2 = i2) (h3 : i + 3 = i3) :
    (s.drop i).take 4 = [s[i]'(by omega), s[i1]'(by omega), s[i2]'(by omega), s[i3]'(by omega)] := by
  subst h1 h2 h3
  refine List.ext_getElem? fun j => ?_
  rw [List.getElem?_take]
  match j with
  | 0 => rw [if_pos (by omega), List.getElem?_drop]; simp
  | 1 => rw [if_pos (by omega), List.getElem?_drop]; simp
  | 2 => rw [if_pos (by omega), List.getElem?_drop]; simp
  | 3 => rw [if_pos (by omega), List.getElem?_drop]; simp
  | j + 4 => rw [if_neg (by omega)]; simp
theorem app_u32d {w : World} {base : Nat} {v : Value} {l : List UInt32} {ty : TypeId} (hown : OwnU w base v l) (hbase : base ≤ w.heap.size) (x : UInt32) (hlen : l.length + 1 ≤ 2000000) :
    ∃ g c' w', appTo Try.prog 57 ty (w.alloc (.cells #[.int .u32 (iw x)] 25)).drew v (.slice (some ⟨w.heap.size, 0, none⟩) 1 1) = .ok (.value (.slice (some ⟨g, 0, none⟩) (l.length + 1) c')) w' ∧ OwnU w' base (.slice (some ⟨g, 0, none⟩) (l.length + 1) c') (l ++ [x]) ∧ Below base w w' ∧ w.heap.size ≤ w'.heap.size := by
  have hd : Below w.heap.size w w.drew := (Below.refl _ _).drew
  obtain ⟨g, c', w', h1, h2, h3, h4⟩ := app_u32 (w := w.drew) (ty := ty) (hown.below hd) hbase x _ rfl hlen
  exact ⟨g, c', w', h1, h2, (hd.mono hbase).trans h3, h4⟩

attribute [local go_sem ↓] append_u32
attribute [local go_sem] u_or u8w shl24 shl16 shl8'
set_option maxHeartbeats 2000000 in
theorem refWords_any (s : List UInt8) (W : World) (hs : s.length ≤ 1000000) : Calls Try.prog 27 #[.string (sB s)] W
    (fun e w' => ∃ g c, e = .returned (.slice (some ⟨g, 0, none⟩) (s.length / 4) c) ∧ OwnU w' W.heap.size (.slice (some ⟨g, 0, none⟩) (s.length / 4) c) (wordsL s) ∧ Below W.heap.size W w') := by
  obtain ⟨q, hq⟩ : ∃ q, s.length / 4 = q := ⟨_, rfl⟩
  have hwl : (wordsL s).length = q := by rw [wordsL_length, hq]
  rw [hq]
  go_enter Try.func27, Try.ntmps27
  go_wp2_with fail
  have hO : OwnU (W.alloc (.cells #[] 25)) W.heap.size (.slice (some ⟨W.heap.size, 0, none⟩) 0 0) ((wordsL s).take 0) := by
    show OwnV _ _ _ _ (uC [])
    rw [uC_nil]
    exact OwnV.empty W W.heap.size 25 W.heap.size rfl (Nat.le_refl _)
  have hB : Below W.heap.size W (W.alloc (.cells #[] 25)) := (Below.refl _ _).alloc (Nat.le_refl _) _
  go_loopw [3, 4] (fun v x wr => Below W.heap.size W wr ∧ ∃ j i : Nat, i = 4 * j ∧ j ≤ q ∧ x = .int .i64 i ∧ ∃ g c, v = .slice (some ⟨g, 0, none⟩) j c ∧ OwnU wr W.heap.size (.slice (some ⟨g, 0, none⟩) j c) ((wordsL s).take j)) (fun _ x _ => s.length - (intOf x).toNat)
  case atStart => exact ⟨hB, 0, 0, rfl, Nat.zero_le _, rfl, _, _, rfl, hO⟩
  case round =>
    obtain ⟨hbr, j, i, hij, hj, rfl, g, c, rfl, hown⟩ := hrel
    have hsz := hbr.size
    have hib : (i : Int) ≤ 1000000 := by omega
    by_cases hlt : j < q
    · have hlt' : (i : Int) + 4 ≤ (s.length : Int) := by omega
      obtain ⟨i1, hi1⟩ : ∃ i1, i + 1 = i1 := ⟨_, rfl⟩
      obtain ⟨i2, hi2⟩ : ∃ i2, i + 2 = i2 := ⟨_, rfl⟩
      obtain ⟨i3, hi3⟩ : ∃ i3, i + 3 = i3 := ⟨_, rfl⟩
      have m0 : i < s.length := by omega
      have m1 : i1 < s.length := by omega
      have m2 : i2 < s.length := by omega
      have m3 : i3 < s.length := by omega
      have hx : (wordsL s)[j]? = some (pw ((s.drop (4 * j)).take 4)) := wordsL_get (by omega)
      rw [← hij, drop4 (by omega) hi1 hi2 hi3, pw4] at hx
      have hs' := List.take_add_one (l := wordsL s) (i := j)
      rw [hx] at hs'
      have y0 : ∀ h, (sB s)[i]'h = s[i]'m0 := fun h => sB_get m0
      have y1 : ∀ h, (sB s)[i1]'h = s[i1]'m1 := fun h => sB_get m1
      have y2 : ∀ h, (sB s)[i2]'h = s[i2]'m2 := fun h => sB_get m2
      have y3 : ∀ h, (sB s)[i3]'h = s[i3]'m3 := fun h => sB_get m3
      generalize s[i]'m0 = b0 at *
      generalize s[i1]'m1 = b1 at *
      generalize s[i2]'m2 = b2 at *
      generalize s[i3]'m3 = b3 at *
      have l1 : (i : Int) + 1 = i1 := by omega
      have l2 : (i : Int) + 2 = i2 := by omega
      have l3 : (i : Int) + 3 = i3 := by omega
      have g0 : (i : Int) < s.length := by omega
      have g1 : (i1 : Int) < s.length := by omega
      have g2 : (i2 : Int) < s.length := by omega
      have g3 : (i3 : Int) < s.length := by omega
      replace hi1 := Box.mk hi1
      replace hi2 := Box.mk hi2
      replace hi3 := Box.mk hi3
      replace hij := Box.mk hij
      replace hx := Box.mk hx
      replace hs' := Box.mk hs'
      have hall : ∀ w' : World, True → True := fun _ _ => trivial
      go_wp2_with fail
      refine hreg_begin (S := (fun _ => True)) (by kernel_rfl) True.intro (fun hHeld => ?_)
      simp only [List.length_cons, List.length_nil, Nat.zero_add, Nat.reduceAdd, Array.replicate]
      refine hreg_take (i := 0) rfl (by kernel_rfl) (by kernel_rfl) (by kernel_rfl) hreg_panic (by rfl) hHeld ?_
      apply Exists.intro
      refine ⟨fun w' hw' => ?_, ?_⟩
      · have hf := hall w' hw'
        go_simp
        try go_bits
        exact yieldsV_mk rfl
      simp only [Act.put, List.setIfInBounds_toArray, List.set_cons_zero, List.set_cons_succ]
      refine hreg_take (i := 1) rfl (by kernel_rfl) (by kernel_rfl) (by kernel_rfl) hreg_panic (by rfl) hHeld ?_
      apply Exists.intro
      refine ⟨fun w' hw' => ?_, ?_⟩
      · have hf := hall w' hw'
        go_simp
        try go_bits
        exact yieldsV_mk rfl
      simp only [Act.put, List.setIfInBounds_toArray, List.set_cons_zero, List.set_cons_succ]
      refine hreg_take (i := 2) rfl (by kernel_rfl) (by kernel_rfl) (by kernel_rfl) hreg_panic (by rfl) hHeld ?_
      apply Exists.intro
      refine ⟨fun w' hw' => ?_, ?_⟩
      · have hf := hall w' hw'
        go_simp
        try go_bits
        exact yieldsV_mk rfl
      simp only [Act.put, List.setIfInBounds_toArray, List.set_cons_zero, List.set_cons_succ]
      refine hreg_take (i := 3) rfl (by kernel_rfl) (by kernel_rfl) (by kernel_rfl) hreg_panic (by rfl) hHeld ?_
      apply Exists.intro
      refine ⟨fun w' hw' => ?_, ?_⟩
      · have hf := hall w' hw'
        go_simp
        try go_bits
        exact yieldsV_mk rfl
      simp only [Act.put, List.setIfInBounds_toArray, List.set_cons_zero, List.set_cons_succ]
      refine hreg_take (i := 4) rfl (by kernel_rfl) (by kernel_rfl) (by kernel_rfl) hreg_panic (by rfl) hHeld ?_
      apply Exists.intro
      refine ⟨fun w' hw' => ?_, ?_⟩
      · have hf := hall w' hw'
        go_simp
        try go_bits
        exact yieldsV_mk rfl
      simp only [Act.put, List.setIfInBounds_toArray, List.set_cons_zero, List.set_cons_succ]
      refine hreg_take (i := 5) rfl (by kernel_rfl) (by kernel_rfl) (by kernel_rfl) hreg_panic (by rfl) hHeld ?_
      apply Exists.intro
      refine ⟨fun w' hw' => ?_, ?_⟩
      · have hf := hall w' hw'
        go_simp
        try go_bits
        exact yieldsV_mk rfl
      simp only [Act.put, List.setIfInBounds_toArray, List.set_cons_zero, List.set_cons_succ]
      refine hreg_take (i := 6) rfl (by kernel_rfl) (by kernel_rfl) (by kernel_rfl) hreg_panic (by rfl) hHeld ?_
      apply Exists.intro
      refine ⟨fun w' hw' => ?_, ?_⟩
      · have hf := hall w' hw'
        go_simp
        try go_bits
        exact yieldsV_mk rfl
      simp only [Act.put, List.setIfInBounds_toArray, List.set_cons_zero, List.set_cons_succ]
      refine hreg_take (i := 7) rfl (by kernel_rfl) (by kernel_rfl) (by kernel_rfl) hreg_panic (by rfl) hHeld ?_
      apply Exists.intro
      refine ⟨fun w' hw' => ?_, ?_⟩
      · have hf := hall w' hw'
        go_simp
        try go_bits
        exact yieldsV_mk rfl
      simp only [Act.put, List.setIfInBounds_toArray, List.set_cons_zero, List.set_cons_succ]
      refine hreg_take (i := 8) rfl (by kernel_rfl) (by kernel_rfl) (by kernel_rfl) hreg_panic (by rfl) hHeld ?_
      apply Exists.intro
      refine ⟨fun w' hw' => ?_, ?_⟩
      · have hf := hall w' hw'
        go_simp
        try go_bits
        exact yieldsV_mk rfl
      simp only [Act.put, List.setIfInBounds_toArray, List.set_cons_zero, List.set_cons_succ]
      refine hreg_take (i := 9) rfl (by kernel_rfl) (by kernel_rfl) (by kernel_rfl) hreg_panic (by rfl) hHeld ?_
      apply Exists.intro
      refine ⟨fun w' hw' => ?_, ?_⟩
      · have hf := hall w' hw'
        go_simp
        try go_bits
        exact yieldsV_mk rfl
      simp only [Act.put, List.setIfInBounds_toArray, List.set_cons_zero, List.set_cons_succ]
      refine hreg_take (i := 10) rfl (by kernel_rfl) (by kernel_rfl) (by kernel_rfl) hreg_panic (by rfl) hHeld ?_
      apply Exists.intro
      refine ⟨fun w' hw' => ?_, ?_⟩
      · have hf := hall w' hw'
        go_simp
        try go_bits
        exact yieldsV_mk rfl
      simp only [Act.put, List.setIfInBounds_toArray, List.set_cons_zero, List.set_cons_succ]
      refine hreg_take (i := 11) rfl (by kernel_rfl) (by kernel_rfl) (by kernel_rfl) hreg_panic (by rfl) hHeld ?_
      apply Exists.intro
      refine ⟨fun w' hw' => ?_, ?_⟩
      · have hf := hall w' hw'
        go_simp
        try go_bits
        exact yieldsV_mk rfl
      simp only [Act.put, List.setIfInBounds_toArray, List.set_cons_zero, List.set_cons_succ]
      refine hreg_take (i := 12) rfl (by kernel_rfl) (by kernel_rfl) (by kernel_rfl) hreg_panic (by rfl) hHeld ?_
      apply Exists.intro
      refine ⟨fun w' hw' => ?_, ?_⟩
      · have hf := hall w' hw'
        go_simp
        try go_bits
        exact yieldsV_mk rfl
      simp only [Act.put, List.setIfInBounds_toArray, List.set_cons_zero, List.set_cons_succ]
      refine hreg_take (i := 13) rfl (by kernel_rfl) (by kernel_rfl) (by kernel_rfl) hreg_panic (by rfl) hHeld ?_
      apply Exists.intro
      refine ⟨fun w' hw' => ?_, ?_⟩
      · have hf := hall w' hw'
        go_simp
        try go_bits
        exact yieldsV_mk rfl
      simp only [Act.put, List.setIfInBounds_toArray, List.set_cons_zero, List.set_cons_succ]
      refine hreg_take (i := 14) rfl (by kernel_rfl) (by kernel_rfl) (by kernel_rfl) hreg_panic (by rfl) hHeld ?_
      apply Exists.intro
      refine ⟨fun w' hw' => ?_, ?_⟩
      · have hf := hall w' hw'
        go_simp
        try go_bits
        exact yieldsV_mk rfl
      simp only [Act.put, List.setIfInBounds_toArray, List.set_cons_zero, List.set_cons_succ]
      refine hreg_take (i := 15) rfl (by kernel_rfl) (by kernel_rfl) (by kernel_rfl) hreg_panic (by rfl) hHeld ?_
      apply Exists.intro
      refine ⟨fun w' hw' => ?_, ?_⟩
      · have hf := hall w' hw'
        go_simp
        try go_bits
        exact yieldsV_mk rfl
      simp only [Act.put, List.setIfInBounds_toArray, List.set_cons_zero, List.set_cons_succ]
      refine hreg_take (i := 16) rfl (by kernel_rfl) (by kernel_rfl) (by kernel_rfl) hreg_panic (by rfl) hHeld ?_
      apply Exists.intro
      refine ⟨fun w' hw' => ?_, ?_⟩
      · have hf := hall w' hw'
        go_simp
        try go_bits
        exact yieldsV_mk rfl
      simp only [Act.put, List.setIfInBounds_toArray, List.set_cons_zero, List.set_cons_succ]
      refine hreg_take (i := 17) rfl (by kernel_rfl) (by kernel_rfl) (by kernel_rfl) hreg_panic (by rfl) hHeld ?_
      apply Exists.intro
      refine ⟨fun w' hw' => ?_, ?_⟩
      · have hf := hall w' hw'
        go_simp
        try go_bits
        exact yieldsV_mk rfl
      simp only [Act.put, List.setIfInBounds_toArray, List.set_cons_zero, List.set_cons_succ]
      refine hreg_take (i := 18) rfl (by kernel_rfl) (by kernel_rfl) (by kernel_rfl) hreg_panic (by rfl) hHeld ?_
      apply Exists.intro
      refine ⟨fun w' hw' => ?_, ?_⟩
      · have hf := hall w' hw'
        go_simp
        try go_bits
        exact yieldsV_mk rfl
      simp only [Act.put, List.setIfInBounds_toArray, List.set_cons_zero, List.set_cons_succ]
      refine hreg_take (i := 19) rfl (by kernel_rfl) (by kernel_rfl) (by kernel_rfl) hreg_panic (by rfl) hHeld ?_
      apply Exists.intro
      refine ⟨fun w' hw' => ?_, ?_⟩
      · have hf := hall w' hw'
        go_simp
        try go_bits
        exact yieldsV_mk rfl
      simp only [Act.put, List.setIfInBounds_toArray, List.set_cons_zero, List.set_cons_succ]
      refine hreg_take (i := 20) rfl (by kernel_rfl) (by kernel_rfl) (by kernel_rfl) hreg_panic (by rfl) hHeld ?_
      apply Exists.intro
      refine ⟨fun w' hw' => ?_, ?_⟩
      · have hf := hall w' hw'
        go_simp
        try go_bits
        exact yieldsV_mk rfl
      simp only [Act.put, List.setIfInBounds_toArray, List.set_cons_zero, List.set_cons_succ]
      refine hreg_take (i := 21) rfl (by kernel_rfl) (by kernel_rfl) (by kernel_rfl) hreg_panic (by rfl) hHeld ?_
      apply Exists.intro
      refine ⟨fun w' hw' => ?_, ?_⟩
      · have hf := hall w' hw'
        go_simp
        try go_bits
        exact yieldsV_mk rfl
      simp only [Act.put, List.setIfInBounds_toArray, List.set_cons_zero, List.set_cons_succ]
      refine hreg_take (i := 22) rfl (by kernel_rfl) (by kernel_rfl) (by kernel_rfl) hreg_panic (by rfl) hHeld ?_
      apply Exists.intro
      refine ⟨fun w' hw' => ?_, ?_⟩
      · have hf := hall w' hw'
        go_simp
        try go_bits
        exact yieldsV_mk rfl
      simp only [Act.put, List.setIfInBounds_toArray, List.set_cons_zero, List.set_cons_succ]
      refine hreg_take (i := 23) rfl (by kernel_rfl) (by kernel_rfl) (by kernel_rfl) hreg_panic (by rfl) hHeld ?_
      apply Exists.intro
      refine ⟨fun w' hw' => ?_, ?_⟩
      · have hf := hall w' hw'
        go_simp
        try go_bits
        exact yieldsV_mk rfl
      simp only [Act.put, List.setIfInBounds_toArray, List.set_cons_zero, List.set_cons_succ]
      refine hreg_take (i := 24) rfl (by kernel_rfl) (by kernel_rfl) (by kernel_rfl) hreg_panic (by rfl) hHeld ?_
      apply Exists.intro
      refine ⟨fun w' hw' => ?_, ?_⟩
      · have hf := hall w' hw'
        go_simp
        try go_bits
        exact yieldsV_mk rfl
      simp only [Act.put, List.setIfInBounds_toArray, List.set_cons_zero, List.set_cons_succ]
      refine hreg_take (i := 25) rfl (by kernel_rfl) (by kernel_rfl) (by kernel_rfl) hreg_panic (by rfl) hHeld ?_
      apply Exists.intro
      refine ⟨fun w' hw' => ?_, ?_⟩
      · have hf := hall w' hw'
        go_simp
        try go_bits
        exact yieldsV_mk rfl
      simp only [Act.put, List.setIfInBounds_toArray, List.set_cons_zero, List.set_cons_succ]
      refine wpAnyH_ready (rs := [26]) (by kernel_rfl) (by simp) ?_
      refine hreg_event (o := _) rfl (by rfl) (fun K hK => ?_) ?_
      · go_simp
        first
          | skip
        refine hK.out _ _ ?_ (fun hHeld' => ?_)
        · first
            | trivial
            | exact hHeld.next hb
            | exact hHeld
            | exact hHeld.alloc _
            | exact hHeld.setCell (by simp <;> omega) _
            | exact (hHeld.alloc _).alloc _
        replace hHeld := hHeld'
        clear hHeld' hK K
        simp only [Act.put, List.setIfInBounds_toArray, List.set_cons_zero, List.set_cons_succ]
        refine wpAnyH_ready (rs := [27]) (by kernel_rfl) (by simp) ?_
        refine hreg_event (o := _) rfl (by rfl) (fun K hK => ?_) ?_
        · go_simp
          first
            | (obtain ⟨g', c', w', hap, hown', hb', hs2⟩ := app_u32d (ty := 57) hown hsz (b0.toUInt32 <<< 24 ||| b1.toUInt32 <<< 16 ||| b2.toUInt32 <<< 8 ||| b3.toUInt32) (by rw [List.length_take]; omega); rw [List.length_take, Nat.min_eq_left (by omega)] at hap hown'; rw [hap])
            | skip
          refine hK.out _ _ ?_ (fun hHeld' => ?_)
          · first
              | trivial
              | exact hHeld.next hb
              | exact hHeld
              | exact hHeld.alloc _
              | exact hHeld.setCell (by simp <;> omega) _
              | exact (hHeld.alloc _).alloc _
          replace hHeld := hHeld'
          clear hHeld' hK K
          simp only [Act.put, List.setIfInBounds_toArray, List.set_cons_zero, List.set_cons_succ]
          refine hreg_take (i := 28) rfl (by kernel_rfl) (by kernel_rfl) (by kernel_rfl) hreg_panic (by rfl) hHeld ?_
          apply Exists.intro
          refine ⟨fun w' hw' => ?_, ?_⟩
          · have hf := hall w' hw'
            go_simp
            try go_bits
            exact yieldsV_mk rfl
          simp only [Act.put, List.setIfInBounds_toArray, List.set_cons_zero, List.set_cons_succ]
          refine wpAnyH_done (by kernel_rfl) ?_ _
          refine NoPanic.normal ?_
          clear hHeld hall
          go_wp2
          go_roundw
          case rel => exact ⟨hbr.trans hb', j + 1, i + 4, by have := hij.out; omega, by omega, by go_num, g', c', rfl, by rw [hs'.out]; exact hown'⟩
          case measure => simp [intOf]; omega
        exact AllReadyH.nil
      exact AllReadyH.nil
    · obtain rfl : j = q := by omega
      have hge : ¬ (i : Int) + 4 ≤ (s.length : Int) := by omega
      replace hij := Box.mk hij
      rw [List.take_of_length_le (by omega)] at hown
      replace hown := Box.mk hown
      go_wp2
      trace_state
      go_ret
      exact ⟨g, c, rfl, hown.out, hbr⟩

end Go.Proofs.Ytabikhmaiennpaa
