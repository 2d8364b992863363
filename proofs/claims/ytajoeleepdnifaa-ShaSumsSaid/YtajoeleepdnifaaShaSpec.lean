/- What the hash is, in plain words: the filling, the words, the schedule, the rounds. No program. -/
import Derived.Test.YtajoeleepdnifaaU32
namespace Go.Proofs.Ytajoeleepdnifaa
set_option maxRecDepth 100000
set_option linter.unusedVariables false

/-- A word out of bytes, the highest one first. -/
def pw (l : List UInt8) : UInt32 := l.foldl (fun a b => (a <<< 8) ||| b.toUInt32) 0
def wordsL (s : List UInt8) : List UInt32 := (List.range (s.length / 4)).map fun t => pw ((s.drop (4 * t)).take 4)
theorem wordsL_length (s : List UInt8) : (wordsL s).length = s.length / 4 := by unfold wordsL; simp

def sig0 (x : UInt32) : UInt32 := rotr x 7 ^^^ rotr x 18 ^^^ (x >>> 3)
def sig1 (x : UInt32) : UInt32 := rotr x 17 ^^^ rotr x 19 ^^^ (x >>> 10)
def Sig0 (x : UInt32) : UInt32 := rotr x 2 ^^^ rotr x 13 ^^^ rotr x 22
def Sig1 (x : UInt32) : UInt32 := rotr x 6 ^^^ rotr x 11 ^^^ rotr x 25
def chW (e f g : UInt32) : UInt32 := g ^^^ (e &&& (f ^^^ g))
def majW (a b c : UInt32) : UInt32 := (a &&& b) ||| (c &&& (a ||| b))

/-- The schedule, one word more. -/
def nextW (ws : List UInt32) : UInt32 := ws.getD (ws.length - 16) 0 + (sig0 (ws.getD (ws.length - 15) 0) + ws.getD (ws.length - 7) 0 + sig1 (ws.getD (ws.length - 2) 0))
def sched (m : List UInt32) : Nat → List UInt32
  | 0 => m
  | n + 1 => sched m n ++ [nextW (sched m n)]
theorem sched_length (m : List UInt32) : ∀ n, (sched m n).length = m.length + n
  | 0 => rfl
  | n + 1 => by rw [sched, List.length_append, sched_length m n]; rfl
theorem sched_pre (m : List UInt32) (n : Nat) : ∀ k i, i < m.length + n → (sched m (n + k))[i]? = (sched m n)[i]?
  | 0, i, h => rfl
  | k + 1, i, h => by
    rw [← Nat.add_assoc, sched, List.getElem?_append_left (by rw [sched_length]; omega), sched_pre m n k i h]
/-- The i-th word of the schedule. -/
def Wd (m : List UInt32) (i : Nat) : UInt32 := (sched m 48).getD i 0
theorem Wd_low {m : List UInt32} (hm : m.length = 16) {i : Nat} (h : i < 16) : Wd m i = m.getD i 0 := by
  unfold Wd
  rw [List.getD_eq_getElem?_getD, List.getD_eq_getElem?_getD]
  rw [show (48 : Nat) = 0 + 48 from rfl, sched_pre m 0 48 i (by omega)]
  rfl
theorem Wd_high {m : List UInt32} (hm : m.length = 16) {i : Nat} (h : 16 ≤ i) (h2 : i < 64) : Wd m i = Wd m (i - 16) + (sig0 (Wd m (i - 15)) + Wd m (i - 7) + sig1 (Wd m (i - 2))) := by
  have key : ∀ j, j < i → (sched m (i - 16)).getD j 0 = Wd m j := fun j hj => by
    unfold Wd
    rw [List.getD_eq_getElem?_getD, List.getD_eq_getElem?_getD, show (48 : Nat) = (i - 16) + (48 - (i - 16)) from by omega, sched_pre m (i - 16) _ j (by omega)]
  have h1 : Wd m i = (sched m (i - 16 + 1)).getD i 0 := by
    unfold Wd
    rw [List.getD_eq_getElem?_getD, List.getD_eq_getElem?_getD]
    conv => lhs; rw [show (48 : Nat) = (i - 16 + 1) + (48 - (i - 16 + 1)) from by omega]
    rw [sched_pre m (i - 16 + 1) _ i (by omega)]
  have hl : (sched m (i - 16)).length = i := by rw [sched_length]; omega
  rw [h1, sched, List.getD_eq_getElem?_getD, List.getElem?_append_right (by omega), hl, Nat.sub_self]
  show nextW (sched m (i - 16)) = _
  unfold nextW
  rw [hl, key (i - 16) (by omega), key (i - 15) (by omega), key (i - 7) (by omega), key (i - 2) (by omega)]

structure St where
  a : UInt32
  b : UInt32
  c : UInt32
  d : UInt32
  e : UInt32
  f : UInt32
  g : UInt32
  z : UInt32
def St.toL (s : St) : List UInt32 := [s.a, s.b, s.c, s.d, s.e, s.f, s.g, s.z]
def rnd (s : St) (k w : UInt32) : St :=
  let t := s.z + Sig1 s.e + chW s.e s.f s.g + k + w
  let u := Sig0 s.a + majW s.a s.b s.c
  ⟨t + u, s.a, s.b, s.c, s.d + t, s.e, s.f, s.g⟩
def kL : List UInt32 := [
  0x428a2f98, 0x71374491, 0xb5c0fbcf, 0xe9b5dba5, 0x3956c25b, 0x59f111f1, 0x923f82a4, 0xab1c5ed5,
  0xd807aa98, 0x12835b01, 0x243185be, 0x550c7dc3, 0x72be5d74, 0x80deb1fe, 0x9bdc06a7, 0xc19bf174,
  0xe49b69c1, 0xefbe4786, 0x0fc19dc6, 0x240ca1cc, 0x2de92c6f, 0x4a7484aa, 0x5cb0a9dc, 0x76f988da,
  0x983e5152, 0xa831c66d, 0xb00327c8, 0xbf597fc7, 0xc6e00bf3, 0xd5a79147, 0x06ca6351, 0x14292967,
  0x27b70a85, 0x2e1b2138, 0x4d2c6dfc, 0x53380d13, 0x650a7354, 0x766a0abb, 0x81c2c92e, 0x92722c85,
  0xa2bfe8a1, 0xa81a664b, 0xc24b8b70, 0xc76c51a3, 0xd192e819, 0xd6990624, 0xf40e3585, 0x106aa070,
  0x19a4c116, 0x1e376c08, 0x2748774c, 0x34b0bcb5, 0x391c0cb3, 0x4ed8aa4a, 0x5b9cca4f, 0x682e6ff3,
  0x748f82ee, 0x78a5636f, 0x84c87814, 0x8cc70208, 0x90befffa, 0xa4506ceb, 0xbef9a3f7, 0xc67178f2]
def h0L : List UInt32 := [0x6a09e667, 0xbb67ae85, 0x3c6ef372, 0xa54ff53a, 0x510e527f, 0x9b05688c, 0x1f83d9ab, 0x5be0cd19]
/-- So many rounds. -/
def runW (m : List UInt32) (s : St) : Nat → St
  | 0 => s
  | n + 1 => rnd (runW m s n) (kL.getD n 0) (Wd m n)
def stOf (h : List UInt32) : St := ⟨h.getD 0 0, h.getD 1 0, h.getD 2 0, h.getD 3 0, h.getD 4 0, h.getD 5 0, h.getD 6 0, h.getD 7 0⟩
/-- h behind a block of sixteen words. -/
def comp (h m : List UInt32) : List UInt32 := List.zipWith (· + ·) h (runW m (stOf h) 64).toL
theorem comp_length {h m : List UInt32} (hh : h.length = 8) : (comp h m).length = 8 := by unfold comp St.toL; simp [hh]
def blocksH (h : List UInt32) (p : List UInt8) : Nat → List UInt32
  | 0 => h
  | n + 1 => blocksH (comp h (wordsL (p.take 64))) (p.drop 64) n
theorem blocksH_length (h : List UInt32) (p : List UInt8) (n : Nat) (hh : h.length = 8) : (blocksH h p n).length = 8 := by
  induction n generalizing h p with
  | zero => exact hh
  | succ n ih => rw [blocksH]; exact ih _ _ (comp_length hh)
/-- Eight bytes of a number, the highest one first. -/
def be8 (n : Nat) : List UInt8 := [UInt8.ofNat (n / 2 ^ 56), UInt8.ofNat (n / 2 ^ 48), UInt8.ofNat (n / 2 ^ 40), UInt8.ofNat (n / 2 ^ 32), UInt8.ofNat (n / 2 ^ 24), UInt8.ofNat (n / 2 ^ 16), UInt8.ofNat (n / 2 ^ 8), UInt8.ofNat n]
def padL (s : List UInt8) : List UInt8 := s ++ 128 :: (List.replicate ((119 - s.length % 64) % 64) 0 ++ be8 (s.length * 8))
theorem padL_length (s : List UInt8) : (padL s).length = s.length + 9 + (119 - s.length % 64) % 64 := by
  unfold padL be8
  simp only [List.length_append, List.length_cons, List.length_replicate, List.length_nil]
  omega
theorem padL_mod (s : List UInt8) : (padL s).length % 64 = 0 := by rw [padL_length]; omega
def digest (h : List UInt32) : List UInt8 := (List.range 32).map fun i => UInt8.ofNat ((h.getD (i / 4) 0).toNat / 2 ^ (8 * (3 - i % 4)))
def sumL (s : List UInt8) : List UInt8 := digest (blocksH h0L (padL s) ((padL s).length / 64))
theorem sumL_length (s : List UInt8) : (sumL s).length = 32 := by unfold sumL digest; simp

/-! ### For a reckoning: the same with lists that go on -/
def runFast : St → List UInt32 → List UInt32 → St
  | s, k :: ks, w :: ws => runFast (rnd s k w) ks ws
  | s, _, _ => s
theorem runW_fast (m : List UInt32) (s : St) (n : Nat) (hk : n ≤ kL.length) (hw : n ≤ (sched m 48).length) : ∀ j, j ≤ n → runFast (runW m s j) ((kL.take n).drop j) (((sched m 48).take n).drop j) = runW m s n := by
  intro j hj
  obtain ⟨t, rfl⟩ : ∃ t, n = j + t := ⟨n - j, by omega⟩
  induction t generalizing j with
  | zero =>
    rw [List.drop_of_length_le (by rw [List.length_take]; omega)]
    cases h : ((sched m 48).take (j + 0)).drop j <;> rfl
  | succ t ih =>
    have e1 : ((kL.take (j + (t + 1))).drop j) = kL.getD j 0 :: ((kL.take (j + (t + 1))).drop (j + 1)) := by
      have hlt : j < (kL.take (j + (t + 1))).length := by rw [List.length_take]; omega
      rw [List.drop_eq_getElem_cons hlt, List.getElem_take, List.getD_eq_getElem?_getD, List.getElem?_eq_getElem (by omega)]; rfl
    have e2 : (((sched m 48).take (j + (t + 1))).drop j) = Wd m j :: (((sched m 48).take (j + (t + 1))).drop (j + 1)) := by
      have hlt : j < ((sched m 48).take (j + (t + 1))).length := by rw [List.length_take]; omega
      unfold Wd
      rw [List.drop_eq_getElem_cons hlt, List.getElem_take, List.getD_eq_getElem?_getD, List.getElem?_eq_getElem (by omega)]; rfl
    rw [e1, e2, runFast]
    have := ih (j + 1) (by omega)
    rw [show j + 1 + t = j + (t + 1) from by omega] at this
    exact this (by omega) (by omega)
theorem runW_64 {m : List UInt32} (hm : m.length = 16) (s : St) : runW m s 64 = runFast s kL (sched m 48) := by
  have h := runW_fast m s 64 (by decide) (by rw [sched_length]; omega) 0 (by omega)
  rw [← h, List.drop_zero, List.drop_zero, List.take_of_length_le (by decide), List.take_of_length_le (by rw [sched_length]; omega)]
  rfl

/-- The hash of nothing begins, and ends, so. -/
def sum0 : List UInt8 := digest (comp h0L (wordsL (padL [])))
theorem sum0_eq : sumL [] = sum0 := by
  unfold sumL sum0
  have e : (padL []).length / 64 = 1 := by decide
  rw [e]
  show digest (comp h0L (wordsL ((padL []).take 64))) = _
  rw [List.take_of_length_le (by decide)]
theorem sum0_fast : sum0 = digest (List.zipWith (· + ·) h0L (runFast (stOf h0L) kL (sched (wordsL (padL [])) 48)).toL) := by
  unfold sum0 comp
  rw [runW_64 (by decide)]
set_option maxRecDepth 100000 in
theorem sum0_is : (sumL []).getD 0 0 = 0xe3 ∧ (sumL []).getD 1 0 = 0xb0 ∧ (sumL []).getD 31 0 = 0x55 := by
  rw [sum0_eq, sum0_fast]
  decide +kernel

end Go.Proofs.Ytajoeleepdnifaa
