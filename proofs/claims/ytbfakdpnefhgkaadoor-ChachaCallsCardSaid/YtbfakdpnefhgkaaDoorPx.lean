/-
  What chacha.Xor computes: no program in sight.
-/
import Derived.Test.YtbfakdpnefhgkaaDoorPu
namespace Go.Proofs.YtbfakdpnefhgkaaDoor
open Bv Mem
def set4To (o : List (BitVec 8)) (i : Nat) (x : BitVec 32) : Nat → List (BitVec 8)
  | 0 => o
  | k + 1 => (set4To o i x k).set (4 * i + k) ((x >>> (8 * k)).setWidth 8)
theorem set4To_zero (o : List (BitVec 8)) (i : Nat) (x : BitVec 32) : set4To o i x 0 = o := rfl
theorem set4To_succ (o : List (BitVec 8)) (i : Nat) (x : BitVec 32) (k : Nat) : set4To o i x (k + 1) = (set4To o i x k).set (4 * i + k) ((x >>> (8 * k)).setWidth 8) := rfl
theorem set4To_four (o : List (BitVec 8)) (i : Nat) (x : BitVec 32) : set4To o i x 4 = set4 o i x := by simp [set4To, set4]
theorem set4To_length (o : List (BitVec 8)) (i : Nat) (x : BitVec 32) (k : Nat) : (set4To o i x k).length = o.length := by
  induction k with
  | zero => rfl
  | succ k ih => rw [set4To_succ, List.length_set, ih]
theorem sh8 (k : Nat) (h : k < 4) : (BitVec.ofNat 64 (8 * k)).toNat = 8 * k := by rw [BitVec.toNat_ofNat]; omega
theorem set4To_next (o : List (BitVec 8)) (i : Nat) (x : BitVec 32) (k : Nat) (h : k < 4) : set4To o i x (k + 1) = (set4To o i x k).set (4 * i + k) ((x >>> (BitVec.ofNat 64 (8 * k)).toNat).setWidth 8) := by
  rw [sh8 k h]; rfl
/-- The key stream's byte i. -/
def ks (key : List (BitVec 8)) (c : BitVec 32) (nonce : List (BitVec 8)) (i : Nat) : BitVec 8 := at_ (block key (c + BitVec.ofNat 32 (i / 64)) nonce) (i % 64)
/-- The first m of n bytes xored, the others 0. -/
def xorTo (key : List (BitVec 8)) (c : BitVec 32) (nonce b : List (BitVec 8)) (n m : Nat) : List (BitVec 8) := (List.range n).map fun i => if i < m then at_ b i ^^^ ks key c nonce i else 0#8
def tooLong (n : Nat) (c : BitVec 32) : Prop := 4294967296 - c.toNat < (n + 63) / 64
theorem xorTo_length (key : List (BitVec 8)) (c : BitVec 32) (nonce b : List (BitVec 8)) (n m : Nat) : (xorTo key c nonce b n m).length = n := by simp [xorTo]
theorem xorTo_zero (key : List (BitVec 8)) (c : BitVec 32) (nonce b : List (BitVec 8)) (n : Nat) : xorTo key c nonce b n 0 = List.replicate n 0#8 := by
  apply List.ext_getElem (by simp [xorTo])
  intro i h1 h2
  simp [xorTo]
theorem xorTo_succ (key : List (BitVec 8)) (c : BitVec 32) (nonce b : List (BitVec 8)) (n m : Nat) (_h : m < n) : xorTo key c nonce b n (m + 1) = (xorTo key c nonce b n m).set m (at_ b m ^^^ ks key c nonce m) := by
  apply List.ext_getElem (by simp [xorTo])
  intro i h1 h2
  simp only [xorTo, List.getElem_map, List.getElem_range, List.getElem_set]
  by_cases hi : m = i
  · subst hi; simp
  · rw [if_neg hi]
    by_cases h3 : i < m
    · simp [h3, Nat.lt_succ_of_lt h3]
    · simp [h3, show ¬ i < m + 1 by omega]
theorem tooLong_iff (n : Nat) (c : BitVec 32) (hn : n < 4611686018427387904) : (4294967296#64 - c.setWidth 64 < (BitVec.ofNat 64 n + 63#64) / 64#64) ↔ tooLong n c := by
  have h := c.isLt
  rw [BitVec.lt_def, BitVec.toNat_udiv, BitVec.toNat_sub, BitVec.toNat_add, BitVec.toNat_setWidth, BitVec.toNat_ofNat]
  simp only [BitVec.toNat_ofNat, tooLong, Nat.reducePow, Nat.reduceMod] at h ⊢
  omega
theorem ks_at (key : List (BitVec 8)) (c : BitVec 32) (nonce : List (BitVec 8)) (i j : Nat) (h1 : 64 * j ≤ i) (h2 : i < 64 * j + 64) : at_ (block key (c + BitVec.ofNat 32 j) nonce) (i - 64 * j) = ks key c nonce i := by
  unfold ks
  rw [show i / 64 = j by omega, show i % 64 = i - 64 * j by omega]
theorem cnt_succ (c : BitVec 32) (j : Nat) : c + BitVec.ofNat 32 (j + 1) = c + BitVec.ofNat 32 j + 1#32 := by
  rw [BitVec.add_assoc, BitVec.ofNat_add]
theorem cnt_zero (c : BitVec 32) : c + BitVec.ofNat 32 0 = c := by simp
/-- Blocks of the key stream, one after the other. -/
def wantTo (key : List (BitVec 8)) (c : BitVec 32) (nonce : List (BitVec 8)) : Nat → List (BitVec 8)
  | 0 => []
  | i + 1 => wantTo key c nonce i ++ block key (c + BitVec.ofNat 32 i) nonce
theorem wantTo_zero (key : List (BitVec 8)) (c : BitVec 32) (nonce : List (BitVec 8)) : wantTo key c nonce 0 = [] := rfl
theorem wantTo_length (key : List (BitVec 8)) (c : BitVec 32) (nonce : List (BitVec 8)) (i : Nat) : (wantTo key c nonce i).length = 64 * i := by
  induction i with
  | zero => rfl
  | succ i ih => rw [wantTo, List.length_append, ih, block_length]; omega
theorem all64 (l : List (BitVec 8)) (h : l.length = 64) : (l.drop 0).take 64 = l := by
  rw [List.drop_zero, ← h, List.take_length]
theorem wantTo_succ (key : List (BitVec 8)) (c : BitVec 32) (nonce : List (BitVec 8)) (i : Nat) : wantTo key c nonce (i + 1) = wantTo key c nonce i ++ ((block key (c + BitVec.ofNat 32 i) nonce).drop 0).take 64 := by
  rw [all64 _ (block_length _ _ _)]; rfl
theorem wantTo_one (key : List (BitVec 8)) (c : BitVec 32) (nonce : List (BitVec 8)) : wantTo key c nonce 1 = ((block key (c + BitVec.ofNat 32 0) nonce).drop 0).take 64 := by
  rw [wantTo_succ, wantTo_zero, List.nil_append]
theorem wantTo_at (key : List (BitVec 8)) (c : BitVec 32) (nonce : List (BitVec 8)) (i t : Nat) (h : t < 64 * i) : at_ (wantTo key c nonce i) t = ks key c nonce t := by
  induction i with
  | zero => omega
  | succ i ih =>
    have hl := wantTo_length key c nonce i
    have e : at_ (wantTo key c nonce (i + 1)) t = if t < 64 * i then at_ (wantTo key c nonce i) t else at_ (block key (c + BitVec.ofNat 32 i) nonce) (t - 64 * i) := by
      unfold at_
      rw [wantTo]
      simp only [List.getD_eq_getElem?_getD]
      by_cases ht : t < 64 * i
      · rw [if_pos ht, List.getElem?_append_left (by omega)]
      · rw [if_neg ht, List.getElem?_append_right (by omega), hl]
    rw [e]
    by_cases ht : t < 64 * i
    · rw [if_pos ht]; exact ih ht
    · rw [if_neg ht]; exact ks_at key c nonce t i (by omega) (by omega)
theorem rows_eq (key : List (BitVec 8)) (c : BitVec 32) (nonce : List (BitVec 8)) (n i : Nat) (h : n ≤ 64 * i) : ((xorTo key c nonce (List.replicate n 0#8) n n).drop 0).take n = ((wantTo key c nonce i).drop 0).take n := by
  have hx := xorTo_length key c nonce (List.replicate n 0#8) n n
  have hw := wantTo_length key c nonce i
  rw [List.drop_zero, List.drop_zero, List.take_of_length_le (by omega)]
  apply List.ext_getElem (by rw [List.length_take]; omega)
  intro t h1 h2
  have := wantTo_at key c nonce i t (by omega)
  rw [List.getElem_take]
  unfold at_ at this
  rw [List.getD_eq_getElem?_getD, List.getElem?_eq_getElem (by omega)] at this
  simp only [Option.getD_some] at this
  rw [this]
  simp only [xorTo, List.getElem_map, List.getElem_range]
  rw [if_pos (by omega)]
  have : at_ (List.replicate n 0#8) t = 0#8 := by unfold at_; simp only [List.getD_eq_getElem?_getD, List.getElem?_replicate]; split <;> rfl
  rw [this]; simp
theorem tooLong_iff2 (n : Nat) (c : BitVec 32) (hn : n < 4611686018427387904) : (4294967296#64 - c.setWidth 64 < BitVec.ofNat 64 (n + 63) / 64#64) ↔ tooLong n c := by
  rw [BitVec.ofNat_add]; exact tooLong_iff n c hn
/-- The first i bytes, xored. -/
def xl (key : List (BitVec 8)) (c : BitVec 32) (nonce b : List (BitVec 8)) (i : Nat) : List (BitVec 8) := (List.range i).map fun t => at_ b t ^^^ ks key c nonce t
theorem xl_zero (key : List (BitVec 8)) (c : BitVec 32) (nonce b : List (BitVec 8)) : xl key c nonce b 0 = [] := rfl
theorem xl_succ (key : List (BitVec 8)) (c : BitVec 32) (nonce b : List (BitVec 8)) (i : Nat) : xl key c nonce b (i + 1) = xl key c nonce b i ++ [at_ b i ^^^ at_ (block key (c + BitVec.ofNat 32 (i / 64)) nonce) (i % 64)] := by
  unfold xl ks
  rw [List.range_succ, List.map_append]
  rfl
theorem xl_one (key : List (BitVec 8)) (c : BitVec 32) (nonce b : List (BitVec 8)) : xl key c nonce b 1 = [at_ b 0 ^^^ at_ (block key (c + BitVec.ofNat 32 (0 / 64)) nonce) (0 % 64)] := by
  rw [xl_succ, xl_zero, List.nil_append]
theorem xl_length (key : List (BitVec 8)) (c : BitVec 32) (nonce b : List (BitVec 8)) (i : Nat) : (xl key c nonce b i).length = i := by simp [xl]
theorem xl_all (key : List (BitVec 8)) (c : BitVec 32) (nonce b : List (BitVec 8)) (n : Nat) : xl key c nonce b n = xorTo key c nonce b n n := by
  unfold xl xorTo
  apply List.map_congr_left
  intro i hi
  rw [if_pos (List.mem_range.1 hi)]
theorem at_take {n : Nat} (b : List (BitVec n)) (k i : Nat) (h : i < k) : at_ (b.take k) i = at_ b i := by simp [at_, List.getD_eq_getElem?_getD, h]
theorem xorTo_take (key : List (BitVec 8)) (c : BitVec 32) (nonce b : List (BitVec 8)) (n m : Nat) : xorTo key c nonce (b.take n) n m = xorTo key c nonce b n m := by
  unfold xorTo
  apply List.map_congr_left
  intro i hi
  rw [at_take b n i (List.mem_range.1 hi)]
attribute [irreducible] ks xorTo wantTo set4To xl
end Go.Proofs.YtbfakdpnefhgkaaDoor
