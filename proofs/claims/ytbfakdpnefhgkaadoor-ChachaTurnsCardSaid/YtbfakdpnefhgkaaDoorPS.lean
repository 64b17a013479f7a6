/-
  The plain law of ChachaStates: a changed byte of key or nonce changes one word, by that byte.
-/
import Derived.Test.YtbfakdpnefhgkaaDoorPu
namespace Go.Proofs.YtbfakdpnefhgkaaDoor
open Bv Mem
attribute [local semireducible] roundTo stKey stNon serTo rounds
theorem state_eq (key : List (BitVec 8)) (c : BitVec 32) (nonce : List (BitVec 8)) : state key c nonce =
    [0x61707865#32, 0x3320646e#32, 0x79622d32#32, 0x6b206574#32, wordAt key 0, wordAt key 4, wordAt key 8, wordAt key 12, wordAt key 16, wordAt key 20, wordAt key 24, wordAt key 28, c, wordAt nonce 0, wordAt nonce 4, wordAt nonce 8] := rfl
theorem word4x_eq (a b c d : BitVec 8) : word4 a b c d = a.setWidth 32 ^^^ b.setWidth 32 <<< 8 ^^^ c.setWidth 32 <<< 16 ^^^ d.setWidth 32 <<< 24 := by
  unfold word4
  have z : ∀ (v : BitVec 8) (i : Nat), 8 ≤ i → v.getLsbD i = false := fun v i h => BitVec.getLsbD_of_ge v i h
  ext i hi
  simp
  by_cases h1 : i < 8
  · simp [h1, show i < 16 by omega, show i < 24 by omega]
  · by_cases h2 : i < 16
    · simp [h1, h2, show i < 24 by omega, z a i (by omega)]
    · by_cases h3 : i < 24
      · simp [h1, h2, h3, z a i (by omega), z b (i - 8) (by omega)]
      · simp [h1, h2, h3, z a i (by omega), z b (i - 8) (by omega), z c (i - 16) (by omega)]
theorem xor_mid {n : Nat} (p q y r : BitVec n) : (p ^^^ (q ^^^ y) ^^^ r) ^^^ (p ^^^ q ^^^ r) = y := by
  ext i hi
  simp
  cases p[i] <;> cases q[i] <;> cases r[i] <;> cases y[i] <;> rfl
theorem at_set {n : Nat} (l : List (BitVec n)) (i j : Nat) (x : BitVec n) : at_ (l.set i x) j = if i = j ∧ j < l.length then x else at_ l j := by
  unfold at_
  rw [List.getD_eq_getElem?_getD, List.getElem?_set, List.getD_eq_getElem?_getD]
  by_cases h : i = j
  · subst h
    by_cases hl : i < l.length <;> simp [hl]
  · simp [h]
/-- The byte y at place r of a word. -/
def byteAt (y : BitVec 8) (r : Nat) : BitVec 32 := y.setWidth 32 <<< (8 * r)
theorem word_turn (l : List (BitVec 8)) (m j : Nat) (y : BitVec 8) (hm : m < l.length) :
    wordAt l (4 * j) ^^^ wordAt (l.set m (at_ l m ^^^ y)) (4 * j) = if m / 4 = j then byteAt y (m % 4) else 0 := by
  rw [BitVec.xor_comm]
  unfold wordAt
  simp only [at_set, word4x_eq]
  by_cases h : m / 4 = j
  · rw [if_pos h]
    have hr : m % 4 = 0 ∨ m % 4 = 1 ∨ m % 4 = 2 ∨ m % 4 = 3 := by omega
    rcases hr with hr | hr | hr | hr
    · obtain rfl : m = 4 * j := by omega
      rw [if_pos ⟨rfl, hm⟩, if_neg (by omega), if_neg (by omega), if_neg (by omega), hr]
      unfold byteAt
      have := xor_mid (0#32) ((at_ l (4 * j)).setWidth 32) (y.setWidth 32) ((at_ l (4 * j + 1)).setWidth 32 <<< 8 ^^^ (at_ l (4 * j + 2)).setWidth 32 <<< 16 ^^^ (at_ l (4 * j + 3)).setWidth 32 <<< 24)
      simpa [BitVec.setWidth_xor, BitVec.xor_assoc] using this
    · obtain rfl : m = 4 * j + 1 := by omega
      rw [if_neg (by omega), if_pos ⟨rfl, hm⟩, if_neg (by omega), if_neg (by omega), hr]
      unfold byteAt
      have := xor_mid ((at_ l (4 * j)).setWidth 32) ((at_ l (4 * j + 1)).setWidth 32 <<< 8) (y.setWidth 32 <<< 8) ((at_ l (4 * j + 2)).setWidth 32 <<< 16 ^^^ (at_ l (4 * j + 3)).setWidth 32 <<< 24)
      simpa [BitVec.setWidth_xor, BitVec.shiftLeft_xor_distrib, BitVec.xor_assoc] using this
    · obtain rfl : m = 4 * j + 2 := by omega
      rw [if_neg (by omega), if_neg (by omega), if_pos ⟨rfl, hm⟩, if_neg (by omega), hr]
      unfold byteAt
      have := xor_mid ((at_ l (4 * j)).setWidth 32 ^^^ (at_ l (4 * j + 1)).setWidth 32 <<< 8) ((at_ l (4 * j + 2)).setWidth 32 <<< 16) (y.setWidth 32 <<< 16) ((at_ l (4 * j + 3)).setWidth 32 <<< 24)
      simpa [BitVec.setWidth_xor, BitVec.shiftLeft_xor_distrib, BitVec.xor_assoc] using this
    · obtain rfl : m = 4 * j + 3 := by omega
      rw [if_neg (by omega), if_neg (by omega), if_neg (by omega), if_pos ⟨rfl, hm⟩, hr]
      unfold byteAt
      have := xor_mid ((at_ l (4 * j)).setWidth 32 ^^^ (at_ l (4 * j + 1)).setWidth 32 <<< 8 ^^^ (at_ l (4 * j + 2)).setWidth 32 <<< 16) ((at_ l (4 * j + 3)).setWidth 32 <<< 24) (y.setWidth 32 <<< 24) 0#32
      simpa [BitVec.setWidth_xor, BitVec.shiftLeft_xor_distrib, BitVec.xor_assoc] using this
  · rw [if_neg h, if_neg (by omega), if_neg (by omega), if_neg (by omega), if_neg (by omega), BitVec.xor_self]; rfl
theorem states_key (key nonce : List (BitVec 8)) (c : BitVec 32) (m : Nat) (y : BitVec 8) (hm : m < 32) (hk : key.length = 32) (i : Nat) (hi : i < 16) :
    at_ (state key c nonce) i ^^^ at_ (state (key.set m (at_ key m ^^^ y)) c nonce) i = if i = 4 + m / 4 then byteAt y (m % 4) else 0 := by
  rw [state_eq, state_eq]
  have hw := fun j => word_turn key m j y (by omega)
  have h16 : i = 0 ∨ i = 1 ∨ i = 2 ∨ i = 3 ∨ i = 4 ∨ i = 5 ∨ i = 6 ∨ i = 7 ∨ i = 8 ∨ i = 9 ∨ i = 10 ∨ i = 11 ∨ i = 12 ∨ i = 13 ∨ i = 14 ∨ i = 15 := by omega
  rcases h16 with rfl | rfl | rfl | rfl | rfl | rfl | rfl | rfl | rfl | rfl | rfl | rfl | rfl | rfl | rfl | rfl
  · rw [if_neg (by omega)]; exact BitVec.xor_self
  · rw [if_neg (by omega)]; exact BitVec.xor_self
  · rw [if_neg (by omega)]; exact BitVec.xor_self
  · rw [if_neg (by omega)]; exact BitVec.xor_self
  · exact (hw 0).trans (by by_cases h : m / 4 = 0 <;> simp [h] <;> omega)
  · exact (hw 1).trans (by by_cases h : m / 4 = 1 <;> simp [h] <;> omega)
  · exact (hw 2).trans (by by_cases h : m / 4 = 2 <;> simp [h] <;> omega)
  · exact (hw 3).trans (by by_cases h : m / 4 = 3 <;> simp [h] <;> omega)
  · exact (hw 4).trans (by by_cases h : m / 4 = 4 <;> simp [h] <;> omega)
  · exact (hw 5).trans (by by_cases h : m / 4 = 5 <;> simp [h] <;> omega)
  · exact (hw 6).trans (by by_cases h : m / 4 = 6 <;> simp [h] <;> omega)
  · exact (hw 7).trans (by by_cases h : m / 4 = 7 <;> simp [h] <;> omega)
  · rw [if_neg (by omega)]; exact BitVec.xor_self
  · rw [if_neg (by omega)]; exact BitVec.xor_self
  · rw [if_neg (by omega)]; exact BitVec.xor_self
  · rw [if_neg (by omega)]; exact BitVec.xor_self
theorem states_nonce (key nonce : List (BitVec 8)) (c : BitVec 32) (m : Nat) (y : BitVec 8) (hm : m < 12) (hn : nonce.length = 12) :
    at_ (state key c (nonce.set m (at_ nonce m ^^^ y))) (13 + m / 4) ^^^ at_ (state key c nonce) (13 + m / 4) = byteAt y (m % 4) := by
  rw [BitVec.xor_comm, state_eq, state_eq]
  have hw := fun j => word_turn nonce m j y (by omega)
  have h3 : m / 4 = 0 ∨ m / 4 = 1 ∨ m / 4 = 2 := by omega
  rcases h3 with h | h | h
  · rw [h]; exact (hw 0).trans (by rw [if_pos h])
  · rw [h]; exact (hw 1).trans (by rw [if_pos h])
  · rw [h]; exact (hw 2).trans (by rw [if_pos h])
end Go.Proofs.YtbfakdpnefhgkaaDoor
