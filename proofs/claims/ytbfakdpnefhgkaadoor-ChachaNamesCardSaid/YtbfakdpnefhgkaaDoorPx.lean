/-
  What chacha.Xor computes: no program in sight.
-/
import Derived.Test.YtbfakdpnefhgkaaDoorPu
namespace Go.Proofs.YtbfakdpnefhgkaaDoor
open Bv Mem
/-- The key stream's byte i. -/
def ks (key : List (BitVec 8)) (c : BitVec 32) (nonce : List (BitVec 8)) (i : Nat) : BitVec 8 := at_ (block key (c + BitVec.ofNat 32 (i / 64)) nonce) (i % 64)
/-- The first m of n bytes xored, the others 0. -/
def xorTo (key : List (BitVec 8)) (c : BitVec 32) (nonce b : List (BitVec 8)) (n m : Nat) : List (BitVec 8) := (List.range n).map fun i => if i < m then at_ b i ^^^ ks key c nonce i else 0#8
def tooLong (n : Nat) (c : BitVec 32) : Prop := 4294967296 - c.toNat < (n + 63) / 64
theorem xorTo_length (key : List (BitVec 8)) (c : BitVec 32) (nonce b : List (BitVec 8)) (n m : Nat) : (xorTo key c nonce b n m).length = n := by simp [xorTo]
theorem xorTo_zero (key : List (BitVec 8)) (c : BitVec 32) (nonce b : List (BitVec 8)) (n : Nat) : xorTo key c nonce b n 0 = List.replicate n 0#8 := by
  apply List.ext_getElem (by simp [xorTo])
  intro i h1 h2
  simp [xorTo]
theorem xorTo_succ (key : List (BitVec 8)) (c : BitVec 32) (nonce b : List (BitVec 8)) (n m : Nat) (h : m < n) : xorTo key c nonce b n (m + 1) = (xorTo key c nonce b n m).set m (at_ b m ^^^ ks key c nonce m) := by
  apply List.ext_getElem (by simp [xorTo])
  intro i h1 h2
  simp only [xorTo, List.getElem_map, List.getElem_range, List.getElem_set]
  by_cases hi : m = i
  · subst hi; simp
  · rw [if_neg hi]
    by_cases h3 : i < m
    · simp [h3, Nat.lt_succ_of_lt h3]
    · simp [h3, show ¬ i < m + 1 by omega]
theorem tooLong_iff (n : Nat) (c : BitVec 32) (hn : n < 4611686018427387904) : (4294967296#64 - c.setWidth 64 < (BitVec.ofNat 64 n + 63#64) / 64#64) ↔ tooLong n c := by
  have h := c.isLt
  rw [BitVec.lt_def, BitVec.toNat_udiv, BitVec.toNat_sub, BitVec.toNat_add, BitVec.toNat_setWidth, BitVec.toNat_ofNat]
  simp only [BitVec.toNat_ofNat, tooLong, Nat.reducePow, Nat.reduceMod] at h ⊢
  omega
theorem ks_at (key : List (BitVec 8)) (c : BitVec 32) (nonce : List (BitVec 8)) (i j : Nat) (h1 : 64 * j ≤ i) (h2 : i < 64 * j + 64) : at_ (block key (c + BitVec.ofNat 32 j) nonce) (i - 64 * j) = ks key c nonce i := by
  unfold ks
  rw [show i / 64 = j by omega, show i % 64 = i - 64 * j by omega]
theorem cnt_succ (c : BitVec 32) (j : Nat) : c + BitVec.ofNat 32 (j + 1) = c + BitVec.ofNat 32 j + 1#32 := by
  rw [BitVec.add_assoc, BitVec.ofNat_add]
theorem cnt_zero (c : BitVec 32) : c + BitVec.ofNat 32 0 = c := by simp
attribute [irreducible] ks xorTo
end Go.Proofs.YtbfakdpnefhgkaaDoor
