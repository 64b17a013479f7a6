/-
  The plain law of ChachaTurns: a quarter turned back, a round turned back, states of different keys.
-/
import Derived.Test.YtbfakdpnefhgkaaDoorPS
namespace Go.Proofs.YtbfakdpnefhgkaaDoor
open Bv Mem
attribute [local semireducible] roundTo stKey stNon serTo rounds
theorem turned (y : BitVec 32) (n : Nat) (h0 : 0 < n) (h : n < 32) : (rotl y n >>> n ||| rotl y n <<< (32 - n)) = y := by
  unfold rotl
  apply BitVec.eq_of_getLsbD_eq
  intro i hi
  simp only [BitVec.getLsbD_or, BitVec.getLsbD_shiftLeft, BitVec.getLsbD_ushiftRight]
  by_cases h1 : n + i < 32
  · have e : y.getLsbD (32 - n + (n + i)) = false := BitVec.getLsbD_of_ge _ _ (by omega)
    simp [h1, show i < 32 - n by omega, show ¬ n + i < n by omega, show n + i - n = i by omega, e]
  · have e : 32 - n + (i - (32 - n)) = i := by omega
    have e2 : y.getLsbD (32 - n + (n + i)) = false := BitVec.getLsbD_of_ge _ _ (by omega)
    simp only [e, e2, show ¬ i < 32 - n by omega, h1, hi]
    by_cases h2 : i - (32 - n) < n
    · simp [h2]
    · omega
theorem unquarter_quarter (a b c d : BitVec 32) : unquarter (quarter a b c d).1 (quarter a b c d).2.1 (quarter a b c d).2.2.1 (quarter a b c d).2.2.2 = (a, b, c, d) := by
  have t7 := fun y => turned y 7 (by omega) (by omega)
  have t8 := fun y => turned y 8 (by omega) (by omega)
  have t12 := fun y => turned y 12 (by omega) (by omega)
  have t16 := fun y => turned y 16 (by omega) (by omega)
  simp only [Nat.reduceSub] at t7 t8 t12 t16
  simp only [unquarter, quarter, t7, t8, t12, t16, BitVec.xor_assoc, BitVec.xor_self, BitVec.xor_zero, BitVec.add_sub_cancel]
/-- A step turned back. -/
def ustep (s : List (BitVec 32)) (q : Nat × Nat × Nat × Nat) : List (BitVec 32) :=
  let r := unquarter (at_ s q.1) (at_ s q.2.1) (at_ s q.2.2.1) (at_ s q.2.2.2)
  (((s.set q.1 r.1).set q.2.1 r.2.1).set q.2.2.1 r.2.2.1).set q.2.2.2 r.2.2.2
theorem at_setq (n : Nat) (s : List (BitVec n)) (i j : Nat) (x : BitVec n) (hi : i < s.length) : at_ (s.set i x) j = if i = j then x else at_ s j := by
  unfold at_
  simp only [List.getD_eq_getElem?_getD, List.getElem?_set]
  by_cases h : i = j
  · subst h; simp [hi]
  · simp [h]
theorem ustep_qstep (s : List (BitVec 32)) (a b c d : Nat) (ha : a < s.length) (hb : b < s.length) (hc : c < s.length) (hd : d < s.length) (h1 : a ≠ b) (h2 : a ≠ c) (h3 : a ≠ d) (h4 : b ≠ c) (h5 : b ≠ d) (h6 : c ≠ d) : ustep (qstep s (a, b, c, d)) (a, b, c, d) = s := by
  have hu := unquarter_quarter (at_ s a) (at_ s b) (at_ s c) (at_ s d)
  have eq : ∃ r, r = quarter (at_ s a) (at_ s b) (at_ s c) (at_ s d) := ⟨_, rfl⟩
  obtain ⟨r, hr⟩ := eq
  rw [← hr] at hu
  unfold ustep qstep
  simp only [← hr]
  rw [at_setq _ _ d a _ (by simpa using hd), at_setq _ _ c a _ (by simpa using hc), at_setq _ _ b a _ (by simpa using hb), at_setq _ _ a a _ ha,
    at_setq _ _ d b _ (by simpa using hd), at_setq _ _ c b _ (by simpa using hc), at_setq _ _ b b _ (by simpa using hb),
    at_setq _ _ d c _ (by simpa using hd), at_setq _ _ c c _ (by simpa using hc), at_setq _ _ d d _ (by simpa using hd)]
  simp only [if_neg h3.symm, if_neg h2.symm, if_neg h1.symm, if_neg h5.symm, if_neg h4.symm, if_neg h6.symm, if_true]
  rw [hu]
  apply List.ext_getElem (by simp)
  intro i i1 i2
  simp only [List.getElem_set]
  have g : ∀ j (hj : j < s.length), at_ s j = s[j] := fun j hj => by simp [at_, List.getD_eq_getElem?_getD, List.getElem?_eq_getElem hj]
  repeat' split
  all_goals (try subst_vars) <;> simp_all
/-- What the loop of the law has turned back after k steps. -/
theorem undo_round (w : List (BitVec 32)) (hw : w.length = 16) (k : Nat) (hk : k < 8) (q) (hq : cols[7 - k]? = some q) : ustep (roundTo (8 - k) w) q = roundTo (8 - (k + 1)) w := by
  rw [show 8 - k = (7 - k) + 1 by omega, roundTo_succ _ _ _ hq, show 8 - (k + 1) = 7 - k by omega]
  have hl := roundTo_length (7 - k) w
  rw [hw] at hl
  have hall : ∀ q ∈ cols, q.1 < 16 ∧ q.2.1 < 16 ∧ q.2.2.1 < 16 ∧ q.2.2.2 < 16 ∧ q.1 ≠ q.2.1 ∧ q.1 ≠ q.2.2.1 ∧ q.1 ≠ q.2.2.2 ∧ q.2.1 ≠ q.2.2.1 ∧ q.2.1 ≠ q.2.2.2 ∧ q.2.2.1 ≠ q.2.2.2 := by decide
  obtain ⟨h1, h2, h3, h4, h5, h6, h7, h8, h9, h10⟩ := hall q (List.mem_of_getElem? hq)
  exact ustep_qstep _ _ _ _ _ (by rw [hl]; exact h1) (by rw [hl]; exact h2) (by rw [hl]; exact h3) (by rw [hl]; exact h4) h5 h6 h7 h8 h9 h10
theorem word4_inj {a b c d a' b' c' d' : BitVec 8} (h : word4 a b c d = word4 a' b' c' d') : a = a' ∧ b = b' ∧ c = c' ∧ d = d' := by
  have hb : ∀ i, (word4 a b c d).getLsbD i = (word4 a' b' c' d').getLsbD i := fun i => by rw [h]
  have z : ∀ (v : BitVec 8) (i : Nat), 8 ≤ i → v.getLsbD i = false := fun v i h => BitVec.getLsbD_of_ge v i h
  unfold word4 at hb
  simp only [BitVec.getLsbD_or, BitVec.getLsbD_shiftLeft, BitVec.getLsbD_setWidth] at hb
  refine ⟨?_, ?_, ?_, ?_⟩
  · apply BitVec.eq_of_getLsbD_eq
    intro i hi
    have := hb i
    simpa [show i < 32 by omega, show i < 8 by omega, show i < 16 by omega, show i < 24 by omega] using this
  · apply BitVec.eq_of_getLsbD_eq
    intro i hi
    have := hb (i + 8)
    simpa [show ¬ i + 8 < 8 by omega, show i < 32 by omega, show i + 8 < 32 by omega, show i + 8 < 16 by omega, show i + 8 < 24 by omega, z a (i + 8) (by omega), z a' (i + 8) (by omega)] using this
  · apply BitVec.eq_of_getLsbD_eq
    intro i hi
    have := hb (i + 16)
    simpa [show ¬ i + 16 < 16 by omega, show i < 32 by omega, show i + 16 < 32 by omega, show i + 16 < 24 by omega, z a (i + 16) (by omega), z a' (i + 16) (by omega), show i + 16 - 8 = i + 8 by omega, z b (i + 8) (by omega), z b' (i + 8) (by omega)] using this
  · apply BitVec.eq_of_getLsbD_eq
    intro i hi
    have := hb (i + 24)
    simpa [show ¬ i + 24 < 24 by omega, show i < 32 by omega, show i + 24 < 32 by omega, z a (i + 24) (by omega), z a' (i + 24) (by omega), show i + 24 - 8 = i + 16 by omega, show i + 24 - 16 = i + 8 by omega, z b (i + 16) (by omega), z b' (i + 16) (by omega), z c (i + 8) (by omega), z c' (i + 8) (by omega)] using this
theorem state_key_inj (k l : List (BitVec 8)) (c : BitVec 32) (n : List (BitVec 8)) (hk : k.length = 32) (hl : l.length = 32) : (state k c n == state l c n) = (k == l) := by
  rw [Bool.eq_iff_iff, beq_iff_eq, beq_iff_eq]
  constructor
  · intro h
    rw [state_eq, state_eq] at h
    simp only [List.cons.injEq, true_and, and_true] at h
    obtain ⟨h0, h1, h2, h3, h4, h5, h6, h7⟩ := h
    have i0 := word4_inj h0
    have i1 := word4_inj h1
    have i2 := word4_inj h2
    have i3 := word4_inj h3
    have i4 := word4_inj h4
    have i5 := word4_inj h5
    have i6 := word4_inj h6
    have i7 := word4_inj h7
    have e : ∀ i, i < 32 → at_ k i = at_ l i := by
      intro i hi
      have hq : i / 4 = 0 ∨ i / 4 = 1 ∨ i / 4 = 2 ∨ i / 4 = 3 ∨ i / 4 = 4 ∨ i / 4 = 5 ∨ i / 4 = 6 ∨ i / 4 = 7 := by omega
      have hr : i % 4 = 0 ∨ i % 4 = 1 ∨ i % 4 = 2 ∨ i % 4 = 3 := by omega
      have hh := Nat.div_add_mod i 4
      rcases hq with hq | hq | hq | hq | hq | hq | hq | hq <;> rcases hr with hr | hr | hr | hr <;> rw [hq, hr] at hh <;> subst hh <;>
        first | exact i0.1 | exact i0.2.1 | exact i0.2.2.1 | exact i0.2.2.2 | exact i1.1 | exact i1.2.1 | exact i1.2.2.1 | exact i1.2.2.2 | exact i2.1 | exact i2.2.1 | exact i2.2.2.1 | exact i2.2.2.2 | exact i3.1 | exact i3.2.1 | exact i3.2.2.1 | exact i3.2.2.2 | exact i4.1 | exact i4.2.1 | exact i4.2.2.1 | exact i4.2.2.2 | exact i5.1 | exact i5.2.1 | exact i5.2.2.1 | exact i5.2.2.2 | exact i6.1 | exact i6.2.1 | exact i6.2.2.1 | exact i6.2.2.2 | exact i7.1 | exact i7.2.1 | exact i7.2.2.1 | exact i7.2.2.2
    apply List.ext_getElem (by omega)
    intro i i1 i2
    have := e i (by omega)
    simpa [at_, List.getD_eq_getElem?_getD, List.getElem?_eq_getElem i1, List.getElem?_eq_getElem i2] using this
  · rintro rfl; rfl
theorem state_next (k n : List (BitVec 8)) (c : BitVec 32) : (state k (c + 1#32) n == state k c n) = false := by
  rw [beq_eq_false_iff_ne]
  intro h
  rw [state_eq, state_eq] at h
  simp only [List.cons.injEq, true_and, and_true] at h
  have h2 := congrArg BitVec.toNat h
  rw [BitVec.toNat_add] at h2
  have := c.isLt
  simp at h2
  omega
end Go.Proofs.YtbfakdpnefhgkaaDoor
