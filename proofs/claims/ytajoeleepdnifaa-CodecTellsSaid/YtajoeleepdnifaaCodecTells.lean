/- Layer 3: what numbers are in bytes, and which numbers bytes are, is the document's. -/
import Derived.Test.YtajoeleepdnifaaCodecRef3
namespace Go.Proofs.Ytajoeleepdnifaa
open Go.RowKit
set_option linter.unusedVariables false
set_option linter.unusedSimpArgs false
attribute [local irreducible] Int.lt Int.le
attribute [local go_sem ↓] load_key store_key alloc_key build0_key eq_key
attribute [local go_sem] rowOf_drew rowOf_alloc_old rowOf_alloc_new canPut_drew canPut_alloc_old canPut_alloc_new setCells_alloc_new

set_option maxRecDepth 100000 in
set_option maxHeartbeats 4000000 in
theorem codecTells_walk (n : Nat) (w : Int) (s : List UInt8) (k : Key) (W : World) (hn : n < 18446744073709551616) : Calls Try.prog 7 #[.int .u64 n, .int .i64 w, .string (sB s), .agg (keyC k).toArray] W (LawEnd W) := by
  replace hn := Box.mk hn
  by_cases hs : 1024 < s.length
  · have hs' : ¬ (s.length : Int) ≤ 1024 := by omega
    go_enter Try.func7, Try.ntmps7
    go_wp2_with fail
    refine (shown03 _).mono ?_
    rintro e w1 ⟨rfl, hb1⟩
    go_wp2
    go_ret
    exact gives_bool rfl (Below.of hb1 (by simp) ((Below.refl _ _).alloc (Nat.le_refl _) _))
  · have hs' : (s.length : Int) ≤ 1024 := by omega
    have hs2 : Box (s.length ≤ 1000000000) := Box.mk (by omega)
    clear hs
    have gv : ∃ v r e, getV s w = (v, r, e) := ⟨_, _, _, rfl⟩
    have rv : ∃ v r e, readV s = (v, r, e) := ⟨_, _, _, rfl⟩
    have kv : ∃ v r e, keyV s = (v, r, e) := ⟨_, _, _, rfl⟩
    obtain ⟨gv1, gv2, gv3, gv⟩ := gv
    obtain ⟨rv1, rv2, rv3, rv⟩ := rv
    obtain ⟨kv1, kv2, kv3, kv⟩ := kv
    replace gv := Box.mk gv
    replace rv := Box.mk rv
    replace kv := Box.mk kv
    go_enter Try.func7, Try.ntmps7
    go_wp2_with fail
    have S0 := (Held.start W 32).row (keyC k) 35 (keyC_length k)
    refine (shown03 _).mono ?_
    rintro e w1 ⟨rfl, hb1⟩
    try clear hcells hrows
    replace S0 := Held.to S0 hb1
    have hcells := Held.cells S0
    have hrows := Held.rows S0
    simp only [CF, RF, World.size_alloc] at hcells hrows
    go_wp2_with fail
    refine (get_any s w _).mono ?_
    rintro e w2 ⟨rfl, hb2⟩
    rw [gv.out]
    simp only [val3]
    try clear hcells hrows
    replace S0 := Held.to S0 hb2
    have hcells := Held.cells S0
    have hrows := Held.rows S0
    simp only [CF, RF, World.size_alloc] at hcells hrows
    go_wp2_with fail
    refine (refGet_any s w _).mono ?_
    rintro e w3 ⟨rfl, hb3⟩
    rw [gv.out]
    simp only [val3]
    try clear hcells hrows
    replace S0 := Held.to S0 hb3
    have hcells := Held.cells S0
    have hrows := Held.rows S0
    simp only [CF, RF, World.size_alloc] at hcells hrows
    go_wp2_with fail
    refine (read_any s _ hs2.out).mono ?_
    rintro e w4 ⟨rfl, hb4⟩
    rw [rv.out]
    simp only [val3]
    try clear hcells hrows
    replace S0 := Held.to S0 hb4
    have hcells := Held.cells S0
    have hrows := Held.rows S0
    simp only [CF, RF, World.size_alloc] at hcells hrows
    go_wp2_with fail
    refine (refRead_any s _ hs2.out).mono ?_
    rintro e w5 ⟨rfl, hb5⟩
    rw [rv.out]
    simp only [val3]
    try clear hcells hrows
    replace S0 := Held.to S0 hb5
    have hcells := Held.cells S0
    have hrows := Held.rows S0
    simp only [CF, RF, World.size_alloc] at hcells hrows
    go_wp2_with fail
    refine (key_any s _ hs2.out).mono ?_
    rintro e w6 ⟨rfl, hb6⟩
    rw [kv.out]
    simp only [valK]
    try clear hcells hrows
    replace S0 := Held.to S0 hb6
    have hcells := Held.cells S0
    have hrows := Held.rows S0
    simp only [CF, RF, World.size_alloc] at hcells hrows
    go_wp2_with fail
    replace S0 := S0.row (keyC kv1) 35 (keyC_length kv1)
    refine (refKey_any s _ hs2.out).mono ?_
    rintro e w7 ⟨rfl, hb7⟩
    rw [kv.out]
    simp only [valK]
    try clear hcells hrows
    replace S0 := Held.to S0 hb7
    have hcells := Held.cells S0
    have hrows := Held.rows S0
    simp only [CF, RF, World.size_alloc] at hcells hrows
    go_wp2_with fail
    replace S0 := S0.row (keyC kv1) 35 (keyC_length kv1)
    obtain ⟨w8, hw8⟩ : ∃ w8, w8 = w7.alloc (.cells (keyC kv1).toArray 35) := ⟨_, rfl⟩
    have hsz8 : w7.heap.size < w8.heap.size := by rw [hw8]; simp
    rw [← hw8] at S0 ⊢
    replace hw8 := Box.mk hw8
    have hr1 : rowOf w8 w7.heap.size 0 32 = some (keyC kv1) := by have := S0.rows; exact this.1.2
    have hr2 : rowOf w8 w6.heap.size 0 32 = some (keyC kv1) := by have := S0.rows; exact this.2.1.2
    have hr3 : rowOf w8 W.heap.size 0 32 = some (keyC k) := by have := S0.rows; exact this.2.2.1.2
    have hl2 : w6.heap.size < w8.heap.size := by have := S0.rows; exact this.2.1.1
    have hl3 : W.heap.size < w8.heap.size := by have := S0.rows; exact this.2.2.1.1
    have hbW := S0.below
    clear hcells hrows S0
    (refine region_since (by kernel_rfl) (by kernel_rfl) ?_)
    repeat (first
      | (refine wpQuiet_goff rfl rfl rfl rfl ?_; simp only [Act.put, List.setIfInBounds_toArray, List.set_cons_succ, List.set_cons_zero])
      | (first
           | refine wpQuiet_free rfl ?_
           | refine wpQuiet_gon rfl rfl rfl rfl ?_
         apply Exists.intro
         refine ⟨fun w' hw' => ?_, ?_⟩
         · (obtain ⟨hc', hr', hs'⟩ := since_facts hw'
            unfold Oper.quietAt
            go_simp
            try go_bits
            first
              | exact quietUpon_value rfl
              | (apply quietUpon_enter
                 first
                 | (go_at_call 18; exact calls_since hw' (put_any n w _ hn.out))
                 | (go_at_call 24; exact calls_since hw' (refPut_any n w _ hn.out))
                 | (go_at_call 17; exact calls_since hw' (compact_any n _ hn.out))
                 | (go_at_call 25; exact calls_since hw' (refCompact_any n _ hn.out))
                 | (go_at_call 26; exact calls_since hw' (bytes_any k _))
                 | (go_at_call 27; exact calls_since hw' (refBytes_any k _))))
         simp only [Act.put, List.setIfInBounds_toArray, List.set_cons_succ, List.set_cons_zero]))
    first
      | refine wpQuiet_nil ?_
      | fail "QUIET stopped"
    intro wq hwq'
    go_wp2
    go_ret
    exact gives_bool rfl (since_next hbW hwq')

end Go.Proofs.Ytajoeleepdnifaa
