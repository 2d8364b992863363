/- Package sha: the constants. -/
import Derived.Test.YtabikhmaiennpaaSha6
namespace Go.Proofs.Ytabikhmaiennpaa
open Go.RowKit Go.Shelf
set_option linter.unusedVariables false
set_option linter.unusedSimpArgs false
set_option maxRecDepth 100000

theorem kL_cells : ([.int .u32 1116352408, .int .u32 1899447441, .int .u32 3049323471, .int .u32 3921009573, .int .u32 961987163, .int .u32 1508970993, .int .u32 2453635748, .int .u32 2870763221, .int .u32 3624381080, .int .u32 310598401, .int .u32 607225278, .int .u32 1426881987, .int .u32 1925078388, .int .u32 2162078206, .int .u32 2614888103, .int .u32 3248222580, .int .u32 3835390401, .int .u32 4022224774, .int .u32 264347078, .int .u32 604807628, .int .u32 770255983, .int .u32 1249150122, .int .u32 1555081692, .int .u32 1996064986, .int .u32 2554220882, .int .u32 2821834349, .int .u32 2952996808, .int .u32 3210313671, .int .u32 3336571891, .int .u32 3584528711, .int .u32 113926993, .int .u32 338241895, .int .u32 666307205, .int .u32 773529912, .int .u32 1294757372, .int .u32 1396182291, .int .u32 1695183700, .int .u32 1986661051, .int .u32 2177026350, .int .u32 2456956037, .int .u32 2730485921, .int .u32 2820302411, .int .u32 3259730800, .int .u32 3345764771, .int .u32 3516065817, .int .u32 3600352804, .int .u32 4094571909, .int .u32 275423344, .int .u32 430227734, .int .u32 506948616, .int .u32 659060556, .int .u32 883997877, .int .u32 958139571, .int .u32 1322822218, .int .u32 1537002063, .int .u32 1747873779, .int .u32 1955562222, .int .u32 2024104815, .int .u32 2227730452, .int .u32 2361852424, .int .u32 2428436474, .int .u32 2756734187, .int .u32 3204031479, .int .u32 3329325298] : List Value) = uC kL := by
  unfold uC kL; simp only [iw_eq]; rfl
theorem h0_cells : ([.int .u32 1779033703, .int .u32 3144134277, .int .u32 1013904242, .int .u32 2773480762, .int .u32 1359893119, .int .u32 2600822924, .int .u32 528734635, .int .u32 1541459225] : List Value) = uC h0L := by
  unfold uC h0L; simp only [iw_eq]; rfl
theorem h0L_length : h0L.length = 8 := rfl
theorem kL_row : isRow 64 (uC kL) = true := by rw [← kL_length]; exact uC_row kL
theorem h0L_row : isRow 8 (uC h0L) = true := by rw [← h0L_length]; exact uC_row h0L
attribute [local irreducible] kL h0L
attribute [local go_sem] kL_length h0L_length
attribute [local irreducible] Int.lt Int.le
attribute [local go_sem] rowOf_drew rowOf_alloc_old rowOf_alloc_new canPut_drew canPut_alloc_old canPut_alloc_new setCells_alloc_new
attribute [local go_sem ↓] load_u64w store_u64w alloc_u64w
theorem res_u64w {tmps : Array Value} {a : Nat} {w : World} {b o : Nat} {cs : List Value} (ht : tmps.getD a undef = .pointer (some ⟨b, o, none⟩)) (h : rowOf w b o 64 = some cs) :
    (oneRes tmps (.cell a 55)).run Try.prog w = .ok (.agg cs.toArray) w := res_cell Try.underlying55 rfl (by kernel_rfl) ht h
set_option maxHeartbeats 2000000 in
theorem constants_any (W : World) : Calls Try.prog 29 #[] W (Gives (.agg (uC kL).toArray) W) := by
  go_enter Try.func29, Try.ntmps29
  have hlen := kL_length
  go_wp2_with fail
  rw [kL_cells]
  simp only [kL_row]
  go_simp
  go_wp2
  refine bodyPost_ret (v := .agg (uC kL).toArray) (res1 Try.results29 (res_u64w (b := W.heap.size) (o := 0) (by simp [go_sem]) (by simp [go_sem]))) rfl ?_
  exact gives rfl ((Below.refl _ _).alloc (Nat.le_refl _) _)

end Go.Proofs.Ytabikhmaiennpaa
