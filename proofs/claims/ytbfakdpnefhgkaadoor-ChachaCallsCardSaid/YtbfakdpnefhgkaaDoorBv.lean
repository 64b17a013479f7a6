/-
  Rules by which the walk's words on whole numbers of a fixed width read as BitVec's: 'nb x' is the number of the bits x. Plain lemmas, over any program.
-/
import Derived.WalkKit
import Derived.WalkSpells
import Derived.WalkLawsBesides
namespace Go.Proofs.YtbfakdpnefhgkaaDoor.Bv
open Go
/-- The number of some bits, as the model holds it. -/
def nb {n : Nat} (x : BitVec n) : Int := (x.toNat : Int)
theorem nb_nonneg {n : Nat} (x : BitVec n) : 0 ≤ nb x := by unfold nb; omega
theorem nb_lt8 (x : BitVec 8) : nb x < 256 := by unfold nb; have := x.isLt; omega
theorem nb_lt32 (x : BitVec 32) : nb x < 4294967296 := by unfold nb; have := x.isLt; omega
theorem nb_lt64 (x : BitVec 64) : nb x < 18446744073709551616 := by unfold nb; have := x.isLt; omega
theorem nb_toNat {n : Nat} (x : BitVec n) : (nb x).toNat = x.toNat := by unfold nb; simp
theorem nb_inj {n : Nat} {a b : BitVec n} (h : nb a = nb b) : a = b := by
  unfold nb at h; exact BitVec.eq_of_toNat_eq (by omega)
@[go_sem high] theorem nb_beq {n : Nat} (a b : BitVec n) : (nb a == nb b) = (a == b) := by
  by_cases h : a = b
  · subst h; simp
  · have : ¬ nb a = nb b := fun e => h (nb_inj e)
    rw [beq_eq_false_iff_ne.2 this, beq_eq_false_iff_ne.2 h]
@[go_sem high] theorem nb_bne {n : Nat} (a b : BitVec n) : (nb a != nb b) = (a != b) := by simp only [bne, nb_beq]
theorem nb_lt {n : Nat} (a b : BitVec n) : (nb a < nb b) = (a < b) := by
  unfold nb; exact propext (by rw [BitVec.lt_def]; omega)
theorem ofInt_nb {n : Nat} (a : BitVec n) : BitVec.ofInt n (nb a) = a := by
  apply BitVec.eq_of_toNat_eq; simp [nb]
theorem ofInt_natLit (n c : Nat) : BitVec.ofInt n (OfNat.ofNat c) = BitVec.ofNat n c := by
  apply BitVec.eq_of_toNat_eq
  rw [BitVec.toNat_ofInt, BitVec.toNat_ofNat]
  show ((c : Int) % ((2 ^ n : Nat) : Int)).toNat = _
  rw [← Int.natCast_emod]; rfl
theorem pow_toNat (y : Int) (n : Nat) : (2 : Int) ^ min y.toNat n = ((2 ^ min y.toNat n : Nat) : Int) := by simp


/-! ### u8 -/
theorem wrap_u8 (x : Int) : IntKind.u8.wrap x = nb (BitVec.ofInt 8 x) := by
  unfold nb
  rw [BitVec.toNat_ofInt]
  simp only [IntKind.wrap, IntKind.bits, IntKind.signed, Bool.false_and, Bool.false_eq_true, if_false]
  have h : (0 : Int) ≤ x % ((2 ^ 8 : Nat) : Int) := Int.emod_nonneg _ (by simp)
  rw [Int.toNat_of_nonneg h]
  rfl
theorem wrap_nb_u8 (a : BitVec 8) : IntKind.u8.wrap (nb a) = nb a := by rw [wrap_u8, ofInt_nb]
theorem add_u8 (a b : BitVec 8) : Op.intArith .add .u8 (nb a) (nb b) = pure (.int .u8 (nb (a + b))) := by
  simp only [Op.intArith]; rw [wrap_u8, BitVec.ofInt_add, ofInt_nb, ofInt_nb]
theorem add_u8_lit (a : BitVec 8) (c : Nat) : Op.intArith .add .u8 (nb a) (no_index (OfNat.ofNat c)) = pure (.int .u8 (nb (a + BitVec.ofNat 8 c))) := by
  simp only [Op.intArith]; rw [wrap_u8, BitVec.ofInt_add, ofInt_nb, ofInt_natLit]
theorem add_lit_u8 (a : BitVec 8) (c : Nat) : Op.intArith .add .u8 (no_index (OfNat.ofNat c)) (nb a) = pure (.int .u8 (nb (BitVec.ofNat 8 c + a))) := by
  simp only [Op.intArith]; rw [wrap_u8, BitVec.ofInt_add, ofInt_nb, ofInt_natLit]
theorem mul_u8 (a b : BitVec 8) : Op.intArith .mul .u8 (nb a) (nb b) = pure (.int .u8 (nb (a * b))) := by
  simp only [Op.intArith]; rw [wrap_u8, BitVec.ofInt_mul, ofInt_nb, ofInt_nb]
theorem mul_u8_lit (a : BitVec 8) (c : Nat) : Op.intArith .mul .u8 (nb a) (no_index (OfNat.ofNat c)) = pure (.int .u8 (nb (a * BitVec.ofNat 8 c))) := by
  simp only [Op.intArith]; rw [wrap_u8, BitVec.ofInt_mul, ofInt_nb, ofInt_natLit]
theorem mul_lit_u8 (a : BitVec 8) (c : Nat) : Op.intArith .mul .u8 (no_index (OfNat.ofNat c)) (nb a) = pure (.int .u8 (nb (BitVec.ofNat 8 c * a))) := by
  simp only [Op.intArith]; rw [wrap_u8, BitVec.ofInt_mul, ofInt_nb, ofInt_natLit]
theorem ofInt_sub_u8 (x y : Int) : BitVec.ofInt 8 (x - y) = BitVec.ofInt 8 x - BitVec.ofInt 8 y := by
  rw [Int.sub_eq_add_neg, BitVec.ofInt_add, BitVec.ofInt_neg, BitVec.sub_eq_add_neg]
theorem sub_u8 (a b : BitVec 8) : Op.intArith .sub .u8 (nb a) (nb b) = pure (.int .u8 (nb (a - b))) := by
  simp only [Op.intArith]; rw [wrap_u8, ofInt_sub_u8, ofInt_nb, ofInt_nb]
theorem sub_u8_lit (a : BitVec 8) (c : Nat) : Op.intArith .sub .u8 (nb a) (no_index (OfNat.ofNat c)) = pure (.int .u8 (nb (a - BitVec.ofNat 8 c))) := by
  simp only [Op.intArith]; rw [wrap_u8, ofInt_sub_u8, ofInt_nb, ofInt_natLit]
theorem sub_lit_u8 (a : BitVec 8) (c : Nat) : Op.intArith .sub .u8 (no_index (OfNat.ofNat c)) (nb a) = pure (.int .u8 (nb (BitVec.ofNat 8 c - a))) := by
  simp only [Op.intArith]; rw [wrap_u8, ofInt_sub_u8, ofInt_nb, ofInt_natLit]
theorem and_u8 (a b : BitVec 8) : Op.intBits .and .u8 (nb a) (nb b) = pure (.int .u8 (nb (a &&& b))) := by
  have h : Op.intBits .and .u8 (nb a) (nb b) = pure (.int .u8 (IntKind.u8.wrap (nb ((fun a b : BitVec 8 => a &&& b) (BitVec.ofInt 8 (nb a)) (BitVec.ofInt 8 (nb b)))))) := rfl
  rw [h, wrap_nb_u8, ofInt_nb, ofInt_nb]
theorem and_u8_lit (a : BitVec 8) (c : Nat) : Op.intBits .and .u8 (nb a) (no_index (OfNat.ofNat c)) = pure (.int .u8 (nb ((fun a b : BitVec 8 => a &&& b) a (BitVec.ofNat 8 c)))) := by
  have h : Op.intBits .and .u8 (nb a) (OfNat.ofNat c) = pure (.int .u8 (IntKind.u8.wrap (nb ((fun a b : BitVec 8 => a &&& b) (BitVec.ofInt 8 (nb a)) (BitVec.ofInt 8 (OfNat.ofNat c)))))) := rfl
  rw [h, wrap_nb_u8, ofInt_nb, ofInt_natLit]
theorem or_u8 (a b : BitVec 8) : Op.intBits .or .u8 (nb a) (nb b) = pure (.int .u8 (nb (a ||| b))) := by
  have h : Op.intBits .or .u8 (nb a) (nb b) = pure (.int .u8 (IntKind.u8.wrap (nb ((fun a b : BitVec 8 => a ||| b) (BitVec.ofInt 8 (nb a)) (BitVec.ofInt 8 (nb b)))))) := rfl
  rw [h, wrap_nb_u8, ofInt_nb, ofInt_nb]
theorem or_u8_lit (a : BitVec 8) (c : Nat) : Op.intBits .or .u8 (nb a) (no_index (OfNat.ofNat c)) = pure (.int .u8 (nb ((fun a b : BitVec 8 => a ||| b) a (BitVec.ofNat 8 c)))) := by
  have h : Op.intBits .or .u8 (nb a) (OfNat.ofNat c) = pure (.int .u8 (IntKind.u8.wrap (nb ((fun a b : BitVec 8 => a ||| b) (BitVec.ofInt 8 (nb a)) (BitVec.ofInt 8 (OfNat.ofNat c)))))) := rfl
  rw [h, wrap_nb_u8, ofInt_nb, ofInt_natLit]
theorem xor_u8 (a b : BitVec 8) : Op.intBits .xor .u8 (nb a) (nb b) = pure (.int .u8 (nb (a ^^^ b))) := by
  have h : Op.intBits .xor .u8 (nb a) (nb b) = pure (.int .u8 (IntKind.u8.wrap (nb ((fun a b : BitVec 8 => a ^^^ b) (BitVec.ofInt 8 (nb a)) (BitVec.ofInt 8 (nb b)))))) := rfl
  rw [h, wrap_nb_u8, ofInt_nb, ofInt_nb]
theorem xor_u8_lit (a : BitVec 8) (c : Nat) : Op.intBits .xor .u8 (nb a) (no_index (OfNat.ofNat c)) = pure (.int .u8 (nb ((fun a b : BitVec 8 => a ^^^ b) a (BitVec.ofNat 8 c)))) := by
  have h : Op.intBits .xor .u8 (nb a) (OfNat.ofNat c) = pure (.int .u8 (IntKind.u8.wrap (nb ((fun a b : BitVec 8 => a ^^^ b) (BitVec.ofInt 8 (nb a)) (BitVec.ofInt 8 (OfNat.ofNat c)))))) := rfl
  rw [h, wrap_nb_u8, ofInt_nb, ofInt_natLit]
theorem andNot_u8 (a b : BitVec 8) : Op.intBits .andNot .u8 (nb a) (nb b) = pure (.int .u8 (nb (a &&& ~~~b))) := by
  have h : Op.intBits .andNot .u8 (nb a) (nb b) = pure (.int .u8 (IntKind.u8.wrap (nb ((fun a b : BitVec 8 => a &&& ~~~b) (BitVec.ofInt 8 (nb a)) (BitVec.ofInt 8 (nb b)))))) := rfl
  rw [h, wrap_nb_u8, ofInt_nb, ofInt_nb]
theorem andNot_u8_lit (a : BitVec 8) (c : Nat) : Op.intBits .andNot .u8 (nb a) (no_index (OfNat.ofNat c)) = pure (.int .u8 (nb ((fun a b : BitVec 8 => a &&& ~~~b) a (BitVec.ofNat 8 c)))) := by
  have h : Op.intBits .andNot .u8 (nb a) (OfNat.ofNat c) = pure (.int .u8 (IntKind.u8.wrap (nb ((fun a b : BitVec 8 => a &&& ~~~b) (BitVec.ofInt 8 (nb a)) (BitVec.ofInt 8 (OfNat.ofNat c)))))) := rfl
  rw [h, wrap_nb_u8, ofInt_nb, ofInt_natLit]
@[go_sem high] theorem badd_u8 (T : TypeId) (a b : BitVec 8) : binOp .add T (.int .u8 (nb a)) (.int .u8 (nb b)) = pure (.int .u8 (nb (a + b))) := by
  rw [← add_u8]; exact binOp_add _ _ _ _
@[go_sem high] theorem badd_u8_lit (T : TypeId) (a : BitVec 8) (c : Nat) : binOp .add T (.int .u8 (nb a)) (.int .u8 (no_index (OfNat.ofNat c))) = pure (.int .u8 (nb (a + BitVec.ofNat 8 c))) := by
  rw [← add_u8_lit]; exact binOp_add _ _ _ _
@[go_sem high] theorem badd_lit_u8 (T : TypeId) (a : BitVec 8) (c : Nat) : binOp .add T (.int .u8 (no_index (OfNat.ofNat c))) (.int .u8 (nb a)) = pure (.int .u8 (nb (BitVec.ofNat 8 c + a))) := by
  rw [← add_lit_u8]; exact binOp_add _ _ _ _
@[go_sem high] theorem bmul_u8 (T : TypeId) (a b : BitVec 8) : binOp .mul T (.int .u8 (nb a)) (.int .u8 (nb b)) = pure (.int .u8 (nb (a * b))) := by
  rw [← mul_u8]; exact binOp_mul _ _ _ _
@[go_sem high] theorem bmul_u8_lit (T : TypeId) (a : BitVec 8) (c : Nat) : binOp .mul T (.int .u8 (nb a)) (.int .u8 (no_index (OfNat.ofNat c))) = pure (.int .u8 (nb (a * BitVec.ofNat 8 c))) := by
  rw [← mul_u8_lit]; exact binOp_mul _ _ _ _
@[go_sem high] theorem bmul_lit_u8 (T : TypeId) (a : BitVec 8) (c : Nat) : binOp .mul T (.int .u8 (no_index (OfNat.ofNat c))) (.int .u8 (nb a)) = pure (.int .u8 (nb (BitVec.ofNat 8 c * a))) := by
  rw [← mul_lit_u8]; exact binOp_mul _ _ _ _
@[go_sem high] theorem bsub_u8 (T : TypeId) (a b : BitVec 8) : binOp .sub T (.int .u8 (nb a)) (.int .u8 (nb b)) = pure (.int .u8 (nb (a - b))) := by
  rw [← sub_u8]; exact binOp_sub _ _ _ _
@[go_sem high] theorem bsub_u8_lit (T : TypeId) (a : BitVec 8) (c : Nat) : binOp .sub T (.int .u8 (nb a)) (.int .u8 (no_index (OfNat.ofNat c))) = pure (.int .u8 (nb (a - BitVec.ofNat 8 c))) := by
  rw [← sub_u8_lit]; exact binOp_sub _ _ _ _
@[go_sem high] theorem bsub_lit_u8 (T : TypeId) (a : BitVec 8) (c : Nat) : binOp .sub T (.int .u8 (no_index (OfNat.ofNat c))) (.int .u8 (nb a)) = pure (.int .u8 (nb (BitVec.ofNat 8 c - a))) := by
  rw [← sub_lit_u8]; exact binOp_sub _ _ _ _
@[go_sem high] theorem band_u8 (T : TypeId) (a b : BitVec 8) : binOp .and T (.int .u8 (nb a)) (.int .u8 (nb b)) = pure (.int .u8 (nb (a &&& b))) := by
  rw [← and_u8]; exact binOp_and _ _ _ _
@[go_sem high] theorem band_u8_lit (T : TypeId) (a : BitVec 8) (c : Nat) : binOp .and T (.int .u8 (nb a)) (.int .u8 (no_index (OfNat.ofNat c))) = pure (.int .u8 (nb ((fun a b : BitVec 8 => a &&& b) a (BitVec.ofNat 8 c)))) := by
  rw [← and_u8_lit]; exact binOp_and _ _ _ _
@[go_sem high] theorem bor_u8 (T : TypeId) (a b : BitVec 8) : binOp .or T (.int .u8 (nb a)) (.int .u8 (nb b)) = pure (.int .u8 (nb (a ||| b))) := by
  rw [← or_u8]; exact binOp_or _ _ _ _
@[go_sem high] theorem bor_u8_lit (T : TypeId) (a : BitVec 8) (c : Nat) : binOp .or T (.int .u8 (nb a)) (.int .u8 (no_index (OfNat.ofNat c))) = pure (.int .u8 (nb ((fun a b : BitVec 8 => a ||| b) a (BitVec.ofNat 8 c)))) := by
  rw [← or_u8_lit]; exact binOp_or _ _ _ _
@[go_sem high] theorem bxor_u8 (T : TypeId) (a b : BitVec 8) : binOp .xor T (.int .u8 (nb a)) (.int .u8 (nb b)) = pure (.int .u8 (nb (a ^^^ b))) := by
  rw [← xor_u8]; exact binOp_xor _ _ _ _
@[go_sem high] theorem bxor_u8_lit (T : TypeId) (a : BitVec 8) (c : Nat) : binOp .xor T (.int .u8 (nb a)) (.int .u8 (no_index (OfNat.ofNat c))) = pure (.int .u8 (nb ((fun a b : BitVec 8 => a ^^^ b) a (BitVec.ofNat 8 c)))) := by
  rw [← xor_u8_lit]; exact binOp_xor _ _ _ _
@[go_sem high] theorem bandNot_u8 (T : TypeId) (a b : BitVec 8) : binOp .andNot T (.int .u8 (nb a)) (.int .u8 (nb b)) = pure (.int .u8 (nb (a &&& ~~~b))) := by
  rw [← andNot_u8]; exact binOp_andNot _ _ _ _
@[go_sem high] theorem bandNot_u8_lit (T : TypeId) (a : BitVec 8) (c : Nat) : binOp .andNot T (.int .u8 (nb a)) (.int .u8 (no_index (OfNat.ofNat c))) = pure (.int .u8 (nb ((fun a b : BitVec 8 => a &&& ~~~b) a (BitVec.ofNat 8 c)))) := by
  rw [← andNot_u8_lit]; exact binOp_andNot _ _ _ _
theorem shl_u8 (a : BitVec 8) (yk : IntKind) (y : Int) (h : 0 ≤ y) : Op.shift .shl .u8 (nb a) yk y = pure (.int .u8 (nb (a <<< y.toNat))) := by
  rw [shift_shl_any _ _ _ _ h]
  have e : IntKind.u8.wrap (nb a * 2 ^ min y.toNat IntKind.u8.bits) = nb (a <<< y.toNat) := by
    rw [pow_toNat, wrap_u8]
    congr 1
    apply BitVec.eq_of_toNat_eq
    rw [BitVec.toNat_ofInt, BitVec.toNat_shiftLeft, Nat.shiftLeft_eq]
    unfold nb
    rw [← Int.natCast_mul, ← Int.natCast_emod, Int.toNat_natCast]
    simp only [IntKind.bits]
    rcases Nat.le_total y.toNat 8 with hl | hl
    · rw [Nat.min_eq_left hl]
    · rw [Nat.min_eq_right hl]
      obtain ⟨d, hd⟩ := Nat.exists_eq_add_of_le hl
      rw [hd, Nat.pow_add, ← Nat.mul_assoc, Nat.mul_right_comm, Nat.mul_mod_left, Nat.mul_mod_left]
  rw [e]
theorem shr_u8 (a : BitVec 8) (yk : IntKind) (y : Int) (h : 0 ≤ y) : Op.shift .shr .u8 (nb a) yk y = pure (.int .u8 (nb (a >>> y.toNat))) := by
  rw [shift_shr_any _ _ _ _ h]
  have e : nb a / 2 ^ min y.toNat IntKind.u8.bits = nb (a >>> y.toNat) := by
    rw [pow_toNat]
    unfold nb
    rw [BitVec.toNat_ushiftRight, Nat.shiftRight_eq_div_pow, ← Int.natCast_ediv]
    congr 1
    simp only [IntKind.bits]
    rcases Nat.le_total y.toNat 8 with hl | hl
    · rw [Nat.min_eq_left hl]
    · rw [Nat.min_eq_right hl]
      have h1 := a.isLt
      have h2 : 2 ^ 8 ≤ 2 ^ y.toNat := Nat.pow_le_pow_right (by omega) hl
      rw [Nat.div_eq_of_lt h1, Nat.div_eq_of_lt (by omega)]
  rw [e]
@[go_sem high] theorem bshl_u8 (T : TypeId) (a : BitVec 8) (yk : IntKind) (y : Int) (h : 0 ≤ y) : binOp .shl T (.int .u8 (nb a)) (.int yk y) = pure (.int .u8 (nb (a <<< y.toNat))) := shl_u8 a yk y h
@[go_sem high] theorem bshr_u8 (T : TypeId) (a : BitVec 8) (yk : IntKind) (y : Int) (h : 0 ≤ y) : binOp .shr T (.int .u8 (nb a)) (.int yk y) = pure (.int .u8 (nb (a >>> y.toNat))) := shr_u8 a yk y h
@[go_sem high] theorem not_u8 (a : BitVec 8) : Op.unary .xor (.int .u8 (nb a)) = pure (.int .u8 (nb (~~~a))) := by
  have h : Op.unary .xor (.int .u8 (nb a)) = pure (.int .u8 (IntKind.u8.wrap (nb (BitVec.ofInt 8 IntKind.u8.max ^^^ BitVec.ofInt 8 (nb a))))) := rfl
  rw [h, wrap_nb_u8, ofInt_nb]
  have e : BitVec.ofInt 8 IntKind.u8.max = BitVec.allOnes 8 := by decide
  rw [e, BitVec.allOnes_xor]
@[go_sem high] theorem neg_u8 (a : BitVec 8) : Op.unary .neg (.int .u8 (nb a)) = pure (.int .u8 (nb (-a))) := by
  have h : Op.unary .neg (.int .u8 (nb a)) = Op.intArith .sub .u8 (OfNat.ofNat 0) (nb a) := rfl
  rw [h, sub_lit_u8]; simp
theorem conv_u8_u8 (a : BitVec 8) : Conv.intToInt .u8 (nb a) = pure (.int .u8 (nb (a.setWidth 8))) := by
  simp only [Conv.intToInt]
  rw [wrap_u8]
  refine congrArg (fun z => pure (Value.int .u8 (nb z))) ?_
  apply BitVec.eq_of_toNat_eq
  rw [BitVec.toNat_ofInt, BitVec.toNat_setWidth]
  unfold nb
  rw [← Int.natCast_emod]
  try rfl
theorem conv_u32_u8 (a : BitVec 32) : Conv.intToInt .u8 (nb a) = pure (.int .u8 (nb (a.setWidth 8))) := by
  simp only [Conv.intToInt]
  rw [wrap_u8]
  refine congrArg (fun z => pure (Value.int .u8 (nb z))) ?_
  apply BitVec.eq_of_toNat_eq
  rw [BitVec.toNat_ofInt, BitVec.toNat_setWidth]
  unfold nb
  rw [← Int.natCast_emod]
  try rfl
theorem conv_u64_u8 (a : BitVec 64) : Conv.intToInt .u8 (nb a) = pure (.int .u8 (nb (a.setWidth 8))) := by
  simp only [Conv.intToInt]
  rw [wrap_u8]
  refine congrArg (fun z => pure (Value.int .u8 (nb z))) ?_
  apply BitVec.eq_of_toNat_eq
  rw [BitVec.toNat_ofInt, BitVec.toNat_setWidth]
  unfold nb
  rw [← Int.natCast_emod]
  try rfl
@[go_sem high] theorem wrap_u8_u8 (a : BitVec 8) : IntKind.u8.wrap (nb a) = nb (a.setWidth 8) := by
  rw [wrap_u8]
  refine congrArg nb ?_
  apply BitVec.eq_of_toNat_eq
  rw [BitVec.toNat_ofInt, BitVec.toNat_setWidth]
  unfold nb
  rw [← Int.natCast_emod]
  try rfl
@[go_sem high] theorem wrap_u32_u8 (a : BitVec 32) : IntKind.u8.wrap (nb a) = nb (a.setWidth 8) := by
  rw [wrap_u8]
  refine congrArg nb ?_
  apply BitVec.eq_of_toNat_eq
  rw [BitVec.toNat_ofInt, BitVec.toNat_setWidth]
  unfold nb
  rw [← Int.natCast_emod]
  try rfl
@[go_sem high] theorem wrap_u64_u8 (a : BitVec 64) : IntKind.u8.wrap (nb a) = nb (a.setWidth 8) := by
  rw [wrap_u8]
  refine congrArg nb ?_
  apply BitVec.eq_of_toNat_eq
  rw [BitVec.toNat_ofInt, BitVec.toNat_setWidth]
  unfold nb
  rw [← Int.natCast_emod]
  try rfl
@[go_sem high] theorem wrap_u8_i64 (a : BitVec 8) : IntKind.i64.wrap (nb a) = nb a := by
  rw [IntWalk.i64_in _ (by have := nb_nonneg a; have := nb_lt8 a; omega)]
theorem conv_u8_i64 (a : BitVec 8) : Conv.intToInt .i64 (nb a) = pure (.int .i64 (nb a)) := by
  simp only [Conv.intToInt]
  rw [IntWalk.i64_in _ (by have := nb_nonneg a; have := nb_lt8 a; omega)]

/-! ### u32 -/
theorem wrap_u32 (x : Int) : IntKind.u32.wrap x = nb (BitVec.ofInt 32 x) := by
  unfold nb
  rw [BitVec.toNat_ofInt]
  simp only [IntKind.wrap, IntKind.bits, IntKind.signed, Bool.false_and, Bool.false_eq_true, if_false]
  have h : (0 : Int) ≤ x % ((2 ^ 32 : Nat) : Int) := Int.emod_nonneg _ (by simp)
  rw [Int.toNat_of_nonneg h]
  rfl
theorem wrap_nb_u32 (a : BitVec 32) : IntKind.u32.wrap (nb a) = nb a := by rw [wrap_u32, ofInt_nb]
theorem add_u32 (a b : BitVec 32) : Op.intArith .add .u32 (nb a) (nb b) = pure (.int .u32 (nb (a + b))) := by
  simp only [Op.intArith]; rw [wrap_u32, BitVec.ofInt_add, ofInt_nb, ofInt_nb]
theorem add_u32_lit (a : BitVec 32) (c : Nat) : Op.intArith .add .u32 (nb a) (no_index (OfNat.ofNat c)) = pure (.int .u32 (nb (a + BitVec.ofNat 32 c))) := by
  simp only [Op.intArith]; rw [wrap_u32, BitVec.ofInt_add, ofInt_nb, ofInt_natLit]
theorem add_lit_u32 (a : BitVec 32) (c : Nat) : Op.intArith .add .u32 (no_index (OfNat.ofNat c)) (nb a) = pure (.int .u32 (nb (BitVec.ofNat 32 c + a))) := by
  simp only [Op.intArith]; rw [wrap_u32, BitVec.ofInt_add, ofInt_nb, ofInt_natLit]
theorem mul_u32 (a b : BitVec 32) : Op.intArith .mul .u32 (nb a) (nb b) = pure (.int .u32 (nb (a * b))) := by
  simp only [Op.intArith]; rw [wrap_u32, BitVec.ofInt_mul, ofInt_nb, ofInt_nb]
theorem mul_u32_lit (a : BitVec 32) (c : Nat) : Op.intArith .mul .u32 (nb a) (no_index (OfNat.ofNat c)) = pure (.int .u32 (nb (a * BitVec.ofNat 32 c))) := by
  simp only [Op.intArith]; rw [wrap_u32, BitVec.ofInt_mul, ofInt_nb, ofInt_natLit]
theorem mul_lit_u32 (a : BitVec 32) (c : Nat) : Op.intArith .mul .u32 (no_index (OfNat.ofNat c)) (nb a) = pure (.int .u32 (nb (BitVec.ofNat 32 c * a))) := by
  simp only [Op.intArith]; rw [wrap_u32, BitVec.ofInt_mul, ofInt_nb, ofInt_natLit]
theorem ofInt_sub_u32 (x y : Int) : BitVec.ofInt 32 (x - y) = BitVec.ofInt 32 x - BitVec.ofInt 32 y := by
  rw [Int.sub_eq_add_neg, BitVec.ofInt_add, BitVec.ofInt_neg, BitVec.sub_eq_add_neg]
theorem sub_u32 (a b : BitVec 32) : Op.intArith .sub .u32 (nb a) (nb b) = pure (.int .u32 (nb (a - b))) := by
  simp only [Op.intArith]; rw [wrap_u32, ofInt_sub_u32, ofInt_nb, ofInt_nb]
theorem sub_u32_lit (a : BitVec 32) (c : Nat) : Op.intArith .sub .u32 (nb a) (no_index (OfNat.ofNat c)) = pure (.int .u32 (nb (a - BitVec.ofNat 32 c))) := by
  simp only [Op.intArith]; rw [wrap_u32, ofInt_sub_u32, ofInt_nb, ofInt_natLit]
theorem sub_lit_u32 (a : BitVec 32) (c : Nat) : Op.intArith .sub .u32 (no_index (OfNat.ofNat c)) (nb a) = pure (.int .u32 (nb (BitVec.ofNat 32 c - a))) := by
  simp only [Op.intArith]; rw [wrap_u32, ofInt_sub_u32, ofInt_nb, ofInt_natLit]
theorem and_u32 (a b : BitVec 32) : Op.intBits .and .u32 (nb a) (nb b) = pure (.int .u32 (nb (a &&& b))) := by
  have h : Op.intBits .and .u32 (nb a) (nb b) = pure (.int .u32 (IntKind.u32.wrap (nb ((fun a b : BitVec 32 => a &&& b) (BitVec.ofInt 32 (nb a)) (BitVec.ofInt 32 (nb b)))))) := rfl
  rw [h, wrap_nb_u32, ofInt_nb, ofInt_nb]
theorem and_u32_lit (a : BitVec 32) (c : Nat) : Op.intBits .and .u32 (nb a) (no_index (OfNat.ofNat c)) = pure (.int .u32 (nb ((fun a b : BitVec 32 => a &&& b) a (BitVec.ofNat 32 c)))) := by
  have h : Op.intBits .and .u32 (nb a) (OfNat.ofNat c) = pure (.int .u32 (IntKind.u32.wrap (nb ((fun a b : BitVec 32 => a &&& b) (BitVec.ofInt 32 (nb a)) (BitVec.ofInt 32 (OfNat.ofNat c)))))) := rfl
  rw [h, wrap_nb_u32, ofInt_nb, ofInt_natLit]
theorem or_u32 (a b : BitVec 32) : Op.intBits .or .u32 (nb a) (nb b) = pure (.int .u32 (nb (a ||| b))) := by
  have h : Op.intBits .or .u32 (nb a) (nb b) = pure (.int .u32 (IntKind.u32.wrap (nb ((fun a b : BitVec 32 => a ||| b) (BitVec.ofInt 32 (nb a)) (BitVec.ofInt 32 (nb b)))))) := rfl
  rw [h, wrap_nb_u32, ofInt_nb, ofInt_nb]
theorem or_u32_lit (a : BitVec 32) (c : Nat) : Op.intBits .or .u32 (nb a) (no_index (OfNat.ofNat c)) = pure (.int .u32 (nb ((fun a b : BitVec 32 => a ||| b) a (BitVec.ofNat 32 c)))) := by
  have h : Op.intBits .or .u32 (nb a) (OfNat.ofNat c) = pure (.int .u32 (IntKind.u32.wrap (nb ((fun a b : BitVec 32 => a ||| b) (BitVec.ofInt 32 (nb a)) (BitVec.ofInt 32 (OfNat.ofNat c)))))) := rfl
  rw [h, wrap_nb_u32, ofInt_nb, ofInt_natLit]
theorem xor_u32 (a b : BitVec 32) : Op.intBits .xor .u32 (nb a) (nb b) = pure (.int .u32 (nb (a ^^^ b))) := by
  have h : Op.intBits .xor .u32 (nb a) (nb b) = pure (.int .u32 (IntKind.u32.wrap (nb ((fun a b : BitVec 32 => a ^^^ b) (BitVec.ofInt 32 (nb a)) (BitVec.ofInt 32 (nb b)))))) := rfl
  rw [h, wrap_nb_u32, ofInt_nb, ofInt_nb]
theorem xor_u32_lit (a : BitVec 32) (c : Nat) : Op.intBits .xor .u32 (nb a) (no_index (OfNat.ofNat c)) = pure (.int .u32 (nb ((fun a b : BitVec 32 => a ^^^ b) a (BitVec.ofNat 32 c)))) := by
  have h : Op.intBits .xor .u32 (nb a) (OfNat.ofNat c) = pure (.int .u32 (IntKind.u32.wrap (nb ((fun a b : BitVec 32 => a ^^^ b) (BitVec.ofInt 32 (nb a)) (BitVec.ofInt 32 (OfNat.ofNat c)))))) := rfl
  rw [h, wrap_nb_u32, ofInt_nb, ofInt_natLit]
theorem andNot_u32 (a b : BitVec 32) : Op.intBits .andNot .u32 (nb a) (nb b) = pure (.int .u32 (nb (a &&& ~~~b))) := by
  have h : Op.intBits .andNot .u32 (nb a) (nb b) = pure (.int .u32 (IntKind.u32.wrap (nb ((fun a b : BitVec 32 => a &&& ~~~b) (BitVec.ofInt 32 (nb a)) (BitVec.ofInt 32 (nb b)))))) := rfl
  rw [h, wrap_nb_u32, ofInt_nb, ofInt_nb]
theorem andNot_u32_lit (a : BitVec 32) (c : Nat) : Op.intBits .andNot .u32 (nb a) (no_index (OfNat.ofNat c)) = pure (.int .u32 (nb ((fun a b : BitVec 32 => a &&& ~~~b) a (BitVec.ofNat 32 c)))) := by
  have h : Op.intBits .andNot .u32 (nb a) (OfNat.ofNat c) = pure (.int .u32 (IntKind.u32.wrap (nb ((fun a b : BitVec 32 => a &&& ~~~b) (BitVec.ofInt 32 (nb a)) (BitVec.ofInt 32 (OfNat.ofNat c)))))) := rfl
  rw [h, wrap_nb_u32, ofInt_nb, ofInt_natLit]
@[go_sem high] theorem badd_u32 (T : TypeId) (a b : BitVec 32) : binOp .add T (.int .u32 (nb a)) (.int .u32 (nb b)) = pure (.int .u32 (nb (a + b))) := by
  rw [← add_u32]; exact binOp_add _ _ _ _
@[go_sem high] theorem badd_u32_lit (T : TypeId) (a : BitVec 32) (c : Nat) : binOp .add T (.int .u32 (nb a)) (.int .u32 (no_index (OfNat.ofNat c))) = pure (.int .u32 (nb (a + BitVec.ofNat 32 c))) := by
  rw [← add_u32_lit]; exact binOp_add _ _ _ _
@[go_sem high] theorem badd_lit_u32 (T : TypeId) (a : BitVec 32) (c : Nat) : binOp .add T (.int .u32 (no_index (OfNat.ofNat c))) (.int .u32 (nb a)) = pure (.int .u32 (nb (BitVec.ofNat 32 c + a))) := by
  rw [← add_lit_u32]; exact binOp_add _ _ _ _
@[go_sem high] theorem bmul_u32 (T : TypeId) (a b : BitVec 32) : binOp .mul T (.int .u32 (nb a)) (.int .u32 (nb b)) = pure (.int .u32 (nb (a * b))) := by
  rw [← mul_u32]; exact binOp_mul _ _ _ _
@[go_sem high] theorem bmul_u32_lit (T : TypeId) (a : BitVec 32) (c : Nat) : binOp .mul T (.int .u32 (nb a)) (.int .u32 (no_index (OfNat.ofNat c))) = pure (.int .u32 (nb (a * BitVec.ofNat 32 c))) := by
  rw [← mul_u32_lit]; exact binOp_mul _ _ _ _
@[go_sem high] theorem bmul_lit_u32 (T : TypeId) (a : BitVec 32) (c : Nat) : binOp .mul T (.int .u32 (no_index (OfNat.ofNat c))) (.int .u32 (nb a)) = pure (.int .u32 (nb (BitVec.ofNat 32 c * a))) := by
  rw [← mul_lit_u32]; exact binOp_mul _ _ _ _
@[go_sem high] theorem bsub_u32 (T : TypeId) (a b : BitVec 32) : binOp .sub T (.int .u32 (nb a)) (.int .u32 (nb b)) = pure (.int .u32 (nb (a - b))) := by
  rw [← sub_u32]; exact binOp_sub _ _ _ _
@[go_sem high] theorem bsub_u32_lit (T : TypeId) (a : BitVec 32) (c : Nat) : binOp .sub T (.int .u32 (nb a)) (.int .u32 (no_index (OfNat.ofNat c))) = pure (.int .u32 (nb (a - BitVec.ofNat 32 c))) := by
  rw [← sub_u32_lit]; exact binOp_sub _ _ _ _
@[go_sem high] theorem bsub_lit_u32 (T : TypeId) (a : BitVec 32) (c : Nat) : binOp .sub T (.int .u32 (no_index (OfNat.ofNat c))) (.int .u32 (nb a)) = pure (.int .u32 (nb (BitVec.ofNat 32 c - a))) := by
  rw [← sub_lit_u32]; exact binOp_sub _ _ _ _
@[go_sem high] theorem band_u32 (T : TypeId) (a b : BitVec 32) : binOp .and T (.int .u32 (nb a)) (.int .u32 (nb b)) = pure (.int .u32 (nb (a &&& b))) := by
  rw [← and_u32]; exact binOp_and _ _ _ _
@[go_sem high] theorem band_u32_lit (T : TypeId) (a : BitVec 32) (c : Nat) : binOp .and T (.int .u32 (nb a)) (.int .u32 (no_index (OfNat.ofNat c))) = pure (.int .u32 (nb ((fun a b : BitVec 32 => a &&& b) a (BitVec.ofNat 32 c)))) := by
  rw [← and_u32_lit]; exact binOp_and _ _ _ _
@[go_sem high] theorem bor_u32 (T : TypeId) (a b : BitVec 32) : binOp .or T (.int .u32 (nb a)) (.int .u32 (nb b)) = pure (.int .u32 (nb (a ||| b))) := by
  rw [← or_u32]; exact binOp_or _ _ _ _
@[go_sem high] theorem bor_u32_lit (T : TypeId) (a : BitVec 32) (c : Nat) : binOp .or T (.int .u32 (nb a)) (.int .u32 (no_index (OfNat.ofNat c))) = pure (.int .u32 (nb ((fun a b : BitVec 32 => a ||| b) a (BitVec.ofNat 32 c)))) := by
  rw [← or_u32_lit]; exact binOp_or _ _ _ _
@[go_sem high] theorem bxor_u32 (T : TypeId) (a b : BitVec 32) : binOp .xor T (.int .u32 (nb a)) (.int .u32 (nb b)) = pure (.int .u32 (nb (a ^^^ b))) := by
  rw [← xor_u32]; exact binOp_xor _ _ _ _
@[go_sem high] theorem bxor_u32_lit (T : TypeId) (a : BitVec 32) (c : Nat) : binOp .xor T (.int .u32 (nb a)) (.int .u32 (no_index (OfNat.ofNat c))) = pure (.int .u32 (nb ((fun a b : BitVec 32 => a ^^^ b) a (BitVec.ofNat 32 c)))) := by
  rw [← xor_u32_lit]; exact binOp_xor _ _ _ _
@[go_sem high] theorem bandNot_u32 (T : TypeId) (a b : BitVec 32) : binOp .andNot T (.int .u32 (nb a)) (.int .u32 (nb b)) = pure (.int .u32 (nb (a &&& ~~~b))) := by
  rw [← andNot_u32]; exact binOp_andNot _ _ _ _
@[go_sem high] theorem bandNot_u32_lit (T : TypeId) (a : BitVec 32) (c : Nat) : binOp .andNot T (.int .u32 (nb a)) (.int .u32 (no_index (OfNat.ofNat c))) = pure (.int .u32 (nb ((fun a b : BitVec 32 => a &&& ~~~b) a (BitVec.ofNat 32 c)))) := by
  rw [← andNot_u32_lit]; exact binOp_andNot _ _ _ _
theorem shl_u32 (a : BitVec 32) (yk : IntKind) (y : Int) (h : 0 ≤ y) : Op.shift .shl .u32 (nb a) yk y = pure (.int .u32 (nb (a <<< y.toNat))) := by
  rw [shift_shl_any _ _ _ _ h]
  have e : IntKind.u32.wrap (nb a * 2 ^ min y.toNat IntKind.u32.bits) = nb (a <<< y.toNat) := by
    rw [pow_toNat, wrap_u32]
    congr 1
    apply BitVec.eq_of_toNat_eq
    rw [BitVec.toNat_ofInt, BitVec.toNat_shiftLeft, Nat.shiftLeft_eq]
    unfold nb
    rw [← Int.natCast_mul, ← Int.natCast_emod, Int.toNat_natCast]
    simp only [IntKind.bits]
    rcases Nat.le_total y.toNat 32 with hl | hl
    · rw [Nat.min_eq_left hl]
    · rw [Nat.min_eq_right hl]
      obtain ⟨d, hd⟩ := Nat.exists_eq_add_of_le hl
      rw [hd, Nat.pow_add, ← Nat.mul_assoc, Nat.mul_right_comm, Nat.mul_mod_left, Nat.mul_mod_left]
  rw [e]
theorem shr_u32 (a : BitVec 32) (yk : IntKind) (y : Int) (h : 0 ≤ y) : Op.shift .shr .u32 (nb a) yk y = pure (.int .u32 (nb (a >>> y.toNat))) := by
  rw [shift_shr_any _ _ _ _ h]
  have e : nb a / 2 ^ min y.toNat IntKind.u32.bits = nb (a >>> y.toNat) := by
    rw [pow_toNat]
    unfold nb
    rw [BitVec.toNat_ushiftRight, Nat.shiftRight_eq_div_pow, ← Int.natCast_ediv]
    congr 1
    simp only [IntKind.bits]
    rcases Nat.le_total y.toNat 32 with hl | hl
    · rw [Nat.min_eq_left hl]
    · rw [Nat.min_eq_right hl]
      have h1 := a.isLt
      have h2 : 2 ^ 32 ≤ 2 ^ y.toNat := Nat.pow_le_pow_right (by omega) hl
      rw [Nat.div_eq_of_lt h1, Nat.div_eq_of_lt (by omega)]
  rw [e]
@[go_sem high] theorem bshl_u32 (T : TypeId) (a : BitVec 32) (yk : IntKind) (y : Int) (h : 0 ≤ y) : binOp .shl T (.int .u32 (nb a)) (.int yk y) = pure (.int .u32 (nb (a <<< y.toNat))) := shl_u32 a yk y h
@[go_sem high] theorem bshr_u32 (T : TypeId) (a : BitVec 32) (yk : IntKind) (y : Int) (h : 0 ≤ y) : binOp .shr T (.int .u32 (nb a)) (.int yk y) = pure (.int .u32 (nb (a >>> y.toNat))) := shr_u32 a yk y h
@[go_sem high] theorem not_u32 (a : BitVec 32) : Op.unary .xor (.int .u32 (nb a)) = pure (.int .u32 (nb (~~~a))) := by
  have h : Op.unary .xor (.int .u32 (nb a)) = pure (.int .u32 (IntKind.u32.wrap (nb (BitVec.ofInt 32 IntKind.u32.max ^^^ BitVec.ofInt 32 (nb a))))) := rfl
  rw [h, wrap_nb_u32, ofInt_nb]
  have e : BitVec.ofInt 32 IntKind.u32.max = BitVec.allOnes 32 := by decide
  rw [e, BitVec.allOnes_xor]
@[go_sem high] theorem neg_u32 (a : BitVec 32) : Op.unary .neg (.int .u32 (nb a)) = pure (.int .u32 (nb (-a))) := by
  have h : Op.unary .neg (.int .u32 (nb a)) = Op.intArith .sub .u32 (OfNat.ofNat 0) (nb a) := rfl
  rw [h, sub_lit_u32]; simp
theorem conv_u8_u32 (a : BitVec 8) : Conv.intToInt .u32 (nb a) = pure (.int .u32 (nb (a.setWidth 32))) := by
  simp only [Conv.intToInt]
  rw [wrap_u32]
  refine congrArg (fun z => pure (Value.int .u32 (nb z))) ?_
  apply BitVec.eq_of_toNat_eq
  rw [BitVec.toNat_ofInt, BitVec.toNat_setWidth]
  unfold nb
  rw [← Int.natCast_emod]
  try rfl
theorem conv_u32_u32 (a : BitVec 32) : Conv.intToInt .u32 (nb a) = pure (.int .u32 (nb (a.setWidth 32))) := by
  simp only [Conv.intToInt]
  rw [wrap_u32]
  refine congrArg (fun z => pure (Value.int .u32 (nb z))) ?_
  apply BitVec.eq_of_toNat_eq
  rw [BitVec.toNat_ofInt, BitVec.toNat_setWidth]
  unfold nb
  rw [← Int.natCast_emod]
  try rfl
theorem conv_u64_u32 (a : BitVec 64) : Conv.intToInt .u32 (nb a) = pure (.int .u32 (nb (a.setWidth 32))) := by
  simp only [Conv.intToInt]
  rw [wrap_u32]
  refine congrArg (fun z => pure (Value.int .u32 (nb z))) ?_
  apply BitVec.eq_of_toNat_eq
  rw [BitVec.toNat_ofInt, BitVec.toNat_setWidth]
  unfold nb
  rw [← Int.natCast_emod]
  try rfl
@[go_sem high] theorem wrap_u8_u32 (a : BitVec 8) : IntKind.u32.wrap (nb a) = nb (a.setWidth 32) := by
  rw [wrap_u32]
  refine congrArg nb ?_
  apply BitVec.eq_of_toNat_eq
  rw [BitVec.toNat_ofInt, BitVec.toNat_setWidth]
  unfold nb
  rw [← Int.natCast_emod]
  try rfl
@[go_sem high] theorem wrap_u32_u32 (a : BitVec 32) : IntKind.u32.wrap (nb a) = nb (a.setWidth 32) := by
  rw [wrap_u32]
  refine congrArg nb ?_
  apply BitVec.eq_of_toNat_eq
  rw [BitVec.toNat_ofInt, BitVec.toNat_setWidth]
  unfold nb
  rw [← Int.natCast_emod]
  try rfl
@[go_sem high] theorem wrap_u64_u32 (a : BitVec 64) : IntKind.u32.wrap (nb a) = nb (a.setWidth 32) := by
  rw [wrap_u32]
  refine congrArg nb ?_
  apply BitVec.eq_of_toNat_eq
  rw [BitVec.toNat_ofInt, BitVec.toNat_setWidth]
  unfold nb
  rw [← Int.natCast_emod]
  try rfl
@[go_sem high] theorem wrap_u32_i64 (a : BitVec 32) : IntKind.i64.wrap (nb a) = nb a := by
  rw [IntWalk.i64_in _ (by have := nb_nonneg a; have := nb_lt32 a; omega)]
theorem conv_u32_i64 (a : BitVec 32) : Conv.intToInt .i64 (nb a) = pure (.int .i64 (nb a)) := by
  simp only [Conv.intToInt]
  rw [IntWalk.i64_in _ (by have := nb_nonneg a; have := nb_lt32 a; omega)]

/-! ### u64 -/
theorem wrap_u64 (x : Int) : IntKind.u64.wrap x = nb (BitVec.ofInt 64 x) := by
  unfold nb
  rw [BitVec.toNat_ofInt]
  simp only [IntKind.wrap, IntKind.bits, IntKind.signed, Bool.false_and, Bool.false_eq_true, if_false]
  have h : (0 : Int) ≤ x % ((2 ^ 64 : Nat) : Int) := Int.emod_nonneg _ (by simp)
  rw [Int.toNat_of_nonneg h]
  rfl
theorem wrap_nb_u64 (a : BitVec 64) : IntKind.u64.wrap (nb a) = nb a := by rw [wrap_u64, ofInt_nb]
theorem add_u64 (a b : BitVec 64) : Op.intArith .add .u64 (nb a) (nb b) = pure (.int .u64 (nb (a + b))) := by
  simp only [Op.intArith]; rw [wrap_u64, BitVec.ofInt_add, ofInt_nb, ofInt_nb]
theorem add_u64_lit (a : BitVec 64) (c : Nat) : Op.intArith .add .u64 (nb a) (no_index (OfNat.ofNat c)) = pure (.int .u64 (nb (a + BitVec.ofNat 64 c))) := by
  simp only [Op.intArith]; rw [wrap_u64, BitVec.ofInt_add, ofInt_nb, ofInt_natLit]
theorem add_lit_u64 (a : BitVec 64) (c : Nat) : Op.intArith .add .u64 (no_index (OfNat.ofNat c)) (nb a) = pure (.int .u64 (nb (BitVec.ofNat 64 c + a))) := by
  simp only [Op.intArith]; rw [wrap_u64, BitVec.ofInt_add, ofInt_nb, ofInt_natLit]
theorem mul_u64 (a b : BitVec 64) : Op.intArith .mul .u64 (nb a) (nb b) = pure (.int .u64 (nb (a * b))) := by
  simp only [Op.intArith]; rw [wrap_u64, BitVec.ofInt_mul, ofInt_nb, ofInt_nb]
theorem mul_u64_lit (a : BitVec 64) (c : Nat) : Op.intArith .mul .u64 (nb a) (no_index (OfNat.ofNat c)) = pure (.int .u64 (nb (a * BitVec.ofNat 64 c))) := by
  simp only [Op.intArith]; rw [wrap_u64, BitVec.ofInt_mul, ofInt_nb, ofInt_natLit]
theorem mul_lit_u64 (a : BitVec 64) (c : Nat) : Op.intArith .mul .u64 (no_index (OfNat.ofNat c)) (nb a) = pure (.int .u64 (nb (BitVec.ofNat 64 c * a))) := by
  simp only [Op.intArith]; rw [wrap_u64, BitVec.ofInt_mul, ofInt_nb, ofInt_natLit]
theorem ofInt_sub_u64 (x y : Int) : BitVec.ofInt 64 (x - y) = BitVec.ofInt 64 x - BitVec.ofInt 64 y := by
  rw [Int.sub_eq_add_neg, BitVec.ofInt_add, BitVec.ofInt_neg, BitVec.sub_eq_add_neg]
theorem sub_u64 (a b : BitVec 64) : Op.intArith .sub .u64 (nb a) (nb b) = pure (.int .u64 (nb (a - b))) := by
  simp only [Op.intArith]; rw [wrap_u64, ofInt_sub_u64, ofInt_nb, ofInt_nb]
theorem sub_u64_lit (a : BitVec 64) (c : Nat) : Op.intArith .sub .u64 (nb a) (no_index (OfNat.ofNat c)) = pure (.int .u64 (nb (a - BitVec.ofNat 64 c))) := by
  simp only [Op.intArith]; rw [wrap_u64, ofInt_sub_u64, ofInt_nb, ofInt_natLit]
theorem sub_lit_u64 (a : BitVec 64) (c : Nat) : Op.intArith .sub .u64 (no_index (OfNat.ofNat c)) (nb a) = pure (.int .u64 (nb (BitVec.ofNat 64 c - a))) := by
  simp only [Op.intArith]; rw [wrap_u64, ofInt_sub_u64, ofInt_nb, ofInt_natLit]
theorem and_u64 (a b : BitVec 64) : Op.intBits .and .u64 (nb a) (nb b) = pure (.int .u64 (nb (a &&& b))) := by
  have h : Op.intBits .and .u64 (nb a) (nb b) = pure (.int .u64 (IntKind.u64.wrap (nb ((fun a b : BitVec 64 => a &&& b) (BitVec.ofInt 64 (nb a)) (BitVec.ofInt 64 (nb b)))))) := rfl
  rw [h, wrap_nb_u64, ofInt_nb, ofInt_nb]
theorem and_u64_lit (a : BitVec 64) (c : Nat) : Op.intBits .and .u64 (nb a) (no_index (OfNat.ofNat c)) = pure (.int .u64 (nb ((fun a b : BitVec 64 => a &&& b) a (BitVec.ofNat 64 c)))) := by
  have h : Op.intBits .and .u64 (nb a) (OfNat.ofNat c) = pure (.int .u64 (IntKind.u64.wrap (nb ((fun a b : BitVec 64 => a &&& b) (BitVec.ofInt 64 (nb a)) (BitVec.ofInt 64 (OfNat.ofNat c)))))) := rfl
  rw [h, wrap_nb_u64, ofInt_nb, ofInt_natLit]
theorem or_u64 (a b : BitVec 64) : Op.intBits .or .u64 (nb a) (nb b) = pure (.int .u64 (nb (a ||| b))) := by
  have h : Op.intBits .or .u64 (nb a) (nb b) = pure (.int .u64 (IntKind.u64.wrap (nb ((fun a b : BitVec 64 => a ||| b) (BitVec.ofInt 64 (nb a)) (BitVec.ofInt 64 (nb b)))))) := rfl
  rw [h, wrap_nb_u64, ofInt_nb, ofInt_nb]
theorem or_u64_lit (a : BitVec 64) (c : Nat) : Op.intBits .or .u64 (nb a) (no_index (OfNat.ofNat c)) = pure (.int .u64 (nb ((fun a b : BitVec 64 => a ||| b) a (BitVec.ofNat 64 c)))) := by
  have h : Op.intBits .or .u64 (nb a) (OfNat.ofNat c) = pure (.int .u64 (IntKind.u64.wrap (nb ((fun a b : BitVec 64 => a ||| b) (BitVec.ofInt 64 (nb a)) (BitVec.ofInt 64 (OfNat.ofNat c)))))) := rfl
  rw [h, wrap_nb_u64, ofInt_nb, ofInt_natLit]
theorem xor_u64 (a b : BitVec 64) : Op.intBits .xor .u64 (nb a) (nb b) = pure (.int .u64 (nb (a ^^^ b))) := by
  have h : Op.intBits .xor .u64 (nb a) (nb b) = pure (.int .u64 (IntKind.u64.wrap (nb ((fun a b : BitVec 64 => a ^^^ b) (BitVec.ofInt 64 (nb a)) (BitVec.ofInt 64 (nb b)))))) := rfl
  rw [h, wrap_nb_u64, ofInt_nb, ofInt_nb]
theorem xor_u64_lit (a : BitVec 64) (c : Nat) : Op.intBits .xor .u64 (nb a) (no_index (OfNat.ofNat c)) = pure (.int .u64 (nb ((fun a b : BitVec 64 => a ^^^ b) a (BitVec.ofNat 64 c)))) := by
  have h : Op.intBits .xor .u64 (nb a) (OfNat.ofNat c) = pure (.int .u64 (IntKind.u64.wrap (nb ((fun a b : BitVec 64 => a ^^^ b) (BitVec.ofInt 64 (nb a)) (BitVec.ofInt 64 (OfNat.ofNat c)))))) := rfl
  rw [h, wrap_nb_u64, ofInt_nb, ofInt_natLit]
theorem andNot_u64 (a b : BitVec 64) : Op.intBits .andNot .u64 (nb a) (nb b) = pure (.int .u64 (nb (a &&& ~~~b))) := by
  have h : Op.intBits .andNot .u64 (nb a) (nb b) = pure (.int .u64 (IntKind.u64.wrap (nb ((fun a b : BitVec 64 => a &&& ~~~b) (BitVec.ofInt 64 (nb a)) (BitVec.ofInt 64 (nb b)))))) := rfl
  rw [h, wrap_nb_u64, ofInt_nb, ofInt_nb]
theorem andNot_u64_lit (a : BitVec 64) (c : Nat) : Op.intBits .andNot .u64 (nb a) (no_index (OfNat.ofNat c)) = pure (.int .u64 (nb ((fun a b : BitVec 64 => a &&& ~~~b) a (BitVec.ofNat 64 c)))) := by
  have h : Op.intBits .andNot .u64 (nb a) (OfNat.ofNat c) = pure (.int .u64 (IntKind.u64.wrap (nb ((fun a b : BitVec 64 => a &&& ~~~b) (BitVec.ofInt 64 (nb a)) (BitVec.ofInt 64 (OfNat.ofNat c)))))) := rfl
  rw [h, wrap_nb_u64, ofInt_nb, ofInt_natLit]
@[go_sem high] theorem badd_u64 (T : TypeId) (a b : BitVec 64) : binOp .add T (.int .u64 (nb a)) (.int .u64 (nb b)) = pure (.int .u64 (nb (a + b))) := by
  rw [← add_u64]; exact binOp_add _ _ _ _
@[go_sem high] theorem badd_u64_lit (T : TypeId) (a : BitVec 64) (c : Nat) : binOp .add T (.int .u64 (nb a)) (.int .u64 (no_index (OfNat.ofNat c))) = pure (.int .u64 (nb (a + BitVec.ofNat 64 c))) := by
  rw [← add_u64_lit]; exact binOp_add _ _ _ _
@[go_sem high] theorem badd_lit_u64 (T : TypeId) (a : BitVec 64) (c : Nat) : binOp .add T (.int .u64 (no_index (OfNat.ofNat c))) (.int .u64 (nb a)) = pure (.int .u64 (nb (BitVec.ofNat 64 c + a))) := by
  rw [← add_lit_u64]; exact binOp_add _ _ _ _
@[go_sem high] theorem bmul_u64 (T : TypeId) (a b : BitVec 64) : binOp .mul T (.int .u64 (nb a)) (.int .u64 (nb b)) = pure (.int .u64 (nb (a * b))) := by
  rw [← mul_u64]; exact binOp_mul _ _ _ _
@[go_sem high] theorem bmul_u64_lit (T : TypeId) (a : BitVec 64) (c : Nat) : binOp .mul T (.int .u64 (nb a)) (.int .u64 (no_index (OfNat.ofNat c))) = pure (.int .u64 (nb (a * BitVec.ofNat 64 c))) := by
  rw [← mul_u64_lit]; exact binOp_mul _ _ _ _
@[go_sem high] theorem bmul_lit_u64 (T : TypeId) (a : BitVec 64) (c : Nat) : binOp .mul T (.int .u64 (no_index (OfNat.ofNat c))) (.int .u64 (nb a)) = pure (.int .u64 (nb (BitVec.ofNat 64 c * a))) := by
  rw [← mul_lit_u64]; exact binOp_mul _ _ _ _
@[go_sem high] theorem bsub_u64 (T : TypeId) (a b : BitVec 64) : binOp .sub T (.int .u64 (nb a)) (.int .u64 (nb b)) = pure (.int .u64 (nb (a - b))) := by
  rw [← sub_u64]; exact binOp_sub _ _ _ _
@[go_sem high] theorem bsub_u64_lit (T : TypeId) (a : BitVec 64) (c : Nat) : binOp .sub T (.int .u64 (nb a)) (.int .u64 (no_index (OfNat.ofNat c))) = pure (.int .u64 (nb (a - BitVec.ofNat 64 c))) := by
  rw [← sub_u64_lit]; exact binOp_sub _ _ _ _
@[go_sem high] theorem bsub_lit_u64 (T : TypeId) (a : BitVec 64) (c : Nat) : binOp .sub T (.int .u64 (no_index (OfNat.ofNat c))) (.int .u64 (nb a)) = pure (.int .u64 (nb (BitVec.ofNat 64 c - a))) := by
  rw [← sub_lit_u64]; exact binOp_sub _ _ _ _
@[go_sem high] theorem band_u64 (T : TypeId) (a b : BitVec 64) : binOp .and T (.int .u64 (nb a)) (.int .u64 (nb b)) = pure (.int .u64 (nb (a &&& b))) := by
  rw [← and_u64]; exact binOp_and _ _ _ _
@[go_sem high] theorem band_u64_lit (T : TypeId) (a : BitVec 64) (c : Nat) : binOp .and T (.int .u64 (nb a)) (.int .u64 (no_index (OfNat.ofNat c))) = pure (.int .u64 (nb ((fun a b : BitVec 64 => a &&& b) a (BitVec.ofNat 64 c)))) := by
  rw [← and_u64_lit]; exact binOp_and _ _ _ _
@[go_sem high] theorem bor_u64 (T : TypeId) (a b : BitVec 64) : binOp .or T (.int .u64 (nb a)) (.int .u64 (nb b)) = pure (.int .u64 (nb (a ||| b))) := by
  rw [← or_u64]; exact binOp_or _ _ _ _
@[go_sem high] theorem bor_u64_lit (T : TypeId) (a : BitVec 64) (c : Nat) : binOp .or T (.int .u64 (nb a)) (.int .u64 (no_index (OfNat.ofNat c))) = pure (.int .u64 (nb ((fun a b : BitVec 64 => a ||| b) a (BitVec.ofNat 64 c)))) := by
  rw [← or_u64_lit]; exact binOp_or _ _ _ _
@[go_sem high] theorem bxor_u64 (T : TypeId) (a b : BitVec 64) : binOp .xor T (.int .u64 (nb a)) (.int .u64 (nb b)) = pure (.int .u64 (nb (a ^^^ b))) := by
  rw [← xor_u64]; exact binOp_xor _ _ _ _
@[go_sem high] theorem bxor_u64_lit (T : TypeId) (a : BitVec 64) (c : Nat) : binOp .xor T (.int .u64 (nb a)) (.int .u64 (no_index (OfNat.ofNat c))) = pure (.int .u64 (nb ((fun a b : BitVec 64 => a ^^^ b) a (BitVec.ofNat 64 c)))) := by
  rw [← xor_u64_lit]; exact binOp_xor _ _ _ _
@[go_sem high] theorem bandNot_u64 (T : TypeId) (a b : BitVec 64) : binOp .andNot T (.int .u64 (nb a)) (.int .u64 (nb b)) = pure (.int .u64 (nb (a &&& ~~~b))) := by
  rw [← andNot_u64]; exact binOp_andNot _ _ _ _
@[go_sem high] theorem bandNot_u64_lit (T : TypeId) (a : BitVec 64) (c : Nat) : binOp .andNot T (.int .u64 (nb a)) (.int .u64 (no_index (OfNat.ofNat c))) = pure (.int .u64 (nb ((fun a b : BitVec 64 => a &&& ~~~b) a (BitVec.ofNat 64 c)))) := by
  rw [← andNot_u64_lit]; exact binOp_andNot _ _ _ _
theorem shl_u64 (a : BitVec 64) (yk : IntKind) (y : Int) (h : 0 ≤ y) : Op.shift .shl .u64 (nb a) yk y = pure (.int .u64 (nb (a <<< y.toNat))) := by
  rw [shift_shl_any _ _ _ _ h]
  have e : IntKind.u64.wrap (nb a * 2 ^ min y.toNat IntKind.u64.bits) = nb (a <<< y.toNat) := by
    rw [pow_toNat, wrap_u64]
    congr 1
    apply BitVec.eq_of_toNat_eq
    rw [BitVec.toNat_ofInt, BitVec.toNat_shiftLeft, Nat.shiftLeft_eq]
    unfold nb
    rw [← Int.natCast_mul, ← Int.natCast_emod, Int.toNat_natCast]
    simp only [IntKind.bits]
    rcases Nat.le_total y.toNat 64 with hl | hl
    · rw [Nat.min_eq_left hl]
    · rw [Nat.min_eq_right hl]
      obtain ⟨d, hd⟩ := Nat.exists_eq_add_of_le hl
      rw [hd, Nat.pow_add, ← Nat.mul_assoc, Nat.mul_right_comm, Nat.mul_mod_left, Nat.mul_mod_left]
  rw [e]
theorem shr_u64 (a : BitVec 64) (yk : IntKind) (y : Int) (h : 0 ≤ y) : Op.shift .shr .u64 (nb a) yk y = pure (.int .u64 (nb (a >>> y.toNat))) := by
  rw [shift_shr_any _ _ _ _ h]
  have e : nb a / 2 ^ min y.toNat IntKind.u64.bits = nb (a >>> y.toNat) := by
    rw [pow_toNat]
    unfold nb
    rw [BitVec.toNat_ushiftRight, Nat.shiftRight_eq_div_pow, ← Int.natCast_ediv]
    congr 1
    simp only [IntKind.bits]
    rcases Nat.le_total y.toNat 64 with hl | hl
    · rw [Nat.min_eq_left hl]
    · rw [Nat.min_eq_right hl]
      have h1 := a.isLt
      have h2 : 2 ^ 64 ≤ 2 ^ y.toNat := Nat.pow_le_pow_right (by omega) hl
      rw [Nat.div_eq_of_lt h1, Nat.div_eq_of_lt (by omega)]
  rw [e]
@[go_sem high] theorem bshl_u64 (T : TypeId) (a : BitVec 64) (yk : IntKind) (y : Int) (h : 0 ≤ y) : binOp .shl T (.int .u64 (nb a)) (.int yk y) = pure (.int .u64 (nb (a <<< y.toNat))) := shl_u64 a yk y h
@[go_sem high] theorem bshr_u64 (T : TypeId) (a : BitVec 64) (yk : IntKind) (y : Int) (h : 0 ≤ y) : binOp .shr T (.int .u64 (nb a)) (.int yk y) = pure (.int .u64 (nb (a >>> y.toNat))) := shr_u64 a yk y h
@[go_sem high] theorem not_u64 (a : BitVec 64) : Op.unary .xor (.int .u64 (nb a)) = pure (.int .u64 (nb (~~~a))) := by
  have h : Op.unary .xor (.int .u64 (nb a)) = pure (.int .u64 (IntKind.u64.wrap (nb (BitVec.ofInt 64 IntKind.u64.max ^^^ BitVec.ofInt 64 (nb a))))) := rfl
  rw [h, wrap_nb_u64, ofInt_nb]
  have e : BitVec.ofInt 64 IntKind.u64.max = BitVec.allOnes 64 := by decide
  rw [e, BitVec.allOnes_xor]
@[go_sem high] theorem neg_u64 (a : BitVec 64) : Op.unary .neg (.int .u64 (nb a)) = pure (.int .u64 (nb (-a))) := by
  have h : Op.unary .neg (.int .u64 (nb a)) = Op.intArith .sub .u64 (OfNat.ofNat 0) (nb a) := rfl
  rw [h, sub_lit_u64]; simp
theorem conv_u8_u64 (a : BitVec 8) : Conv.intToInt .u64 (nb a) = pure (.int .u64 (nb (a.setWidth 64))) := by
  simp only [Conv.intToInt]
  rw [wrap_u64]
  refine congrArg (fun z => pure (Value.int .u64 (nb z))) ?_
  apply BitVec.eq_of_toNat_eq
  rw [BitVec.toNat_ofInt, BitVec.toNat_setWidth]
  unfold nb
  rw [← Int.natCast_emod]
  try rfl
theorem conv_u32_u64 (a : BitVec 32) : Conv.intToInt .u64 (nb a) = pure (.int .u64 (nb (a.setWidth 64))) := by
  simp only [Conv.intToInt]
  rw [wrap_u64]
  refine congrArg (fun z => pure (Value.int .u64 (nb z))) ?_
  apply BitVec.eq_of_toNat_eq
  rw [BitVec.toNat_ofInt, BitVec.toNat_setWidth]
  unfold nb
  rw [← Int.natCast_emod]
  try rfl
theorem conv_u64_u64 (a : BitVec 64) : Conv.intToInt .u64 (nb a) = pure (.int .u64 (nb (a.setWidth 64))) := by
  simp only [Conv.intToInt]
  rw [wrap_u64]
  refine congrArg (fun z => pure (Value.int .u64 (nb z))) ?_
  apply BitVec.eq_of_toNat_eq
  rw [BitVec.toNat_ofInt, BitVec.toNat_setWidth]
  unfold nb
  rw [← Int.natCast_emod]
  try rfl
@[go_sem high] theorem wrap_u8_u64 (a : BitVec 8) : IntKind.u64.wrap (nb a) = nb (a.setWidth 64) := by
  rw [wrap_u64]
  refine congrArg nb ?_
  apply BitVec.eq_of_toNat_eq
  rw [BitVec.toNat_ofInt, BitVec.toNat_setWidth]
  unfold nb
  rw [← Int.natCast_emod]
  try rfl
@[go_sem high] theorem wrap_u32_u64 (a : BitVec 32) : IntKind.u64.wrap (nb a) = nb (a.setWidth 64) := by
  rw [wrap_u64]
  refine congrArg nb ?_
  apply BitVec.eq_of_toNat_eq
  rw [BitVec.toNat_ofInt, BitVec.toNat_setWidth]
  unfold nb
  rw [← Int.natCast_emod]
  try rfl
@[go_sem high] theorem wrap_u64_u64 (a : BitVec 64) : IntKind.u64.wrap (nb a) = nb (a.setWidth 64) := by
  rw [wrap_u64]
  refine congrArg nb ?_
  apply BitVec.eq_of_toNat_eq
  rw [BitVec.toNat_ofInt, BitVec.toNat_setWidth]
  unfold nb
  rw [← Int.natCast_emod]
  try rfl
end Go.Proofs.YtbfakdpnefhgkaaDoor.Bv

