/-
  The laws of single operations, each in the form in which it is applied. Plain lemmas, over any program.
-/
import Derived.Test.YtbfakdpnefhgkaaDoorSe
set_option linter.unusedSimpArgs false
set_option linter.unusedVariables false
namespace Go.Proofs.YtbfakdpnefhgkaaDoor.Sl
open Go Go.RowKit Bv Mem
/-! ### What the program says of its types and functions -/
class TI (P : Program) (t : TypeId) (agg : outParam Bool) (sz : outParam Nat) : Prop where
  ag : aggT P t = some agg
  sz : (P.info? t).map (·.size) = some sz
class TK (P : Program) (t : TypeId) (k : outParam IntKind) : Prop where
  un : P.underlying t = some (.int k)
class TA (P : Program) (t : TypeId) (len e : outParam Nat) : Prop where
  un : P.underlying t = some (.array len e)
class TS (P : Program) (t : TypeId) (e : outParam Nat) : Prop where
  un : P.underlying t = some (.slice e)
class TZ (P : Program) (t : TypeId) (C : outParam (Array Value)) : Prop where
  zero : ∃ z, (P.info? t).bind (·.zero) = some z ∧ z.cells = C
  plain : ∀ E, AR (R1 E) C C
class FI (P : Program) (f : FuncId) (fn : outParam Func) : Prop where
  at_ : P.funcs[f]? = some fn
  body : fn.body.isNone = false
  name : (fn.name == "runtime.NumGoroutine") = false
def dstOk (d : Option Tmp) (N : Nat) : Bool := match d with
  | some d => Nat.ble (d + 1) N
  | none => true
theorem dstOut {d : Option Tmp} {N : Nat} (h : dstOk d N = true) : ∀ k, d = some k → Nat.ble (k + 1) N = true := by
  intro k hk; subst hk; exact h
/-! ### Numbers of a fixed width -/
def bvBin {n : Nat} (op : BinOp) (a b : BitVec n) : Option (BitVec n) := match op with
  | .add => some (a + b)
  | .sub => some (a - b)
  | .mul => some (a * b)
  | .and => some (a &&& b)
  | .or => some (a ||| b)
  | .xor => some (a ^^^ b)
  | .andNot => some (a &&& ~~~b)
  | _ => none
def bvCmp {n : Nat} (op : BinOp) (a b : BitVec n) : Option Bool := match op with
  | .eql => some (a == b)
  | .neq => some (a != b)
  | .lss => some (decide (a < b))
  | .leq => some (decide (a ≤ b))
  | .gtr => some (decide (b < a))
  | .geq => some (decide (b ≤ a))
  | _ => none
def bvShift {n : Nat} (op : BinOp) (a : BitVec n) (y : Nat) : Option (BitVec n) := match op with
  | .shl => some (a <<< y)
  | .shr => some (a >>> y)
  | _ => none
/-- The kinds of a fixed width without a sign. -/
class KW (k : IntKind) (n : outParam Nat) : Prop where
  bin : ∀ (op : BinOp) (T : TypeId) (a b c : BitVec n), bvBin op a b = some c → binOp op T (.int k (nb a)) (.int k (nb b)) = Pure.pure (.int k (nb c))
  cmp : ∀ (op : BinOp) (T : TypeId) (a b : BitVec n) (c : Bool), bvCmp op a b = some c → binOp op T (.int k (nb a)) (.int k (nb b)) = Pure.pure (.bool c)
  shift : ∀ (op : BinOp) (T : TypeId) (a c : BitVec n) (yk : IntKind) (y : Nat), bvShift op a y = some c → binOp op T (.int k (nb a)) (.int yk (y : Int)) = Pure.pure (.int k (nb c))
  wrap : ∀ x : Int, k.wrap x = nb (BitVec.ofInt n x)
theorem nb_le {n : Nat} (a b : BitVec n) : (nb a ≤ nb b) = (a ≤ b) := by
  unfold nb; exact propext (by rw [BitVec.le_def]; omega)
theorem binOp_cmp (op : BinOp) (T : TypeId) (k : IntKind) (a b : Int) (h : op = .eql ∨ op = .neq ∨ op = .lss ∨ op = .leq ∨ op = .gtr ∨ op = .geq) : binOp op T (.int k a) (.int k b) = Op.intCmp op a b := by
  rcases h with rfl | rfl | rfl | rfl | rfl | rfl <;> simp [binOp]
theorem cmp_all (k : IntKind) {n : Nat} (op : BinOp) (T : TypeId) (a b : BitVec n) (c : Bool) (h : bvCmp op a b = some c) : binOp op T (.int k (nb a)) (.int k (nb b)) = Pure.pure (.bool c) := by
  cases op <;> simp only [bvCmp] at h <;> first
    | (injection h with h; subst h; rw [binOp_cmp _ _ _ _ _ (by simp)]; simp only [Op.intCmp, nb_beq, nb_bne, nb_lt, nb_le, ge_iff_le, gt_iff_lt])
    | cases h
instance : KW .u8 8 where
  bin := by
    intro op T a b c h
    cases op with
    | add => injection h with h; subst h; exact badd_u8 _ _ _
    | sub => injection h with h; subst h; exact bsub_u8 _ _ _
    | mul => injection h with h; subst h; exact bmul_u8 _ _ _
    | and => injection h with h; subst h; exact band_u8 _ _ _
    | or => injection h with h; subst h; exact bor_u8 _ _ _
    | xor => injection h with h; subst h; exact bxor_u8 _ _ _
    | andNot => injection h with h; subst h; exact bandNot_u8 _ _ _
    | _ => cases h
  cmp := fun op T a b c h => cmp_all _ op T a b c h
  shift := by
    intro op T a c yk y h
    cases op with
    | shl => injection h with h; subst h; exact bshl_u8 _ _ _ _ (Int.natCast_nonneg y)
    | shr => injection h with h; subst h; exact bshr_u8 _ _ _ _ (Int.natCast_nonneg y)
    | _ => cases h
  wrap := wrap_u8
instance : KW .u32 32 where
  bin := by
    intro op T a b c h
    cases op with
    | add => injection h with h; subst h; exact badd_u32 _ _ _
    | sub => injection h with h; subst h; exact bsub_u32 _ _ _
    | mul => injection h with h; subst h; exact bmul_u32 _ _ _
    | and => injection h with h; subst h; exact band_u32 _ _ _
    | or => injection h with h; subst h; exact bor_u32 _ _ _
    | xor => injection h with h; subst h; exact bxor_u32 _ _ _
    | andNot => injection h with h; subst h; exact bandNot_u32 _ _ _
    | _ => cases h
  cmp := fun op T a b c h => cmp_all _ op T a b c h
  shift := by
    intro op T a c yk y h
    cases op with
    | shl => injection h with h; subst h; exact bshl_u32 _ _ _ _ (Int.natCast_nonneg y)
    | shr => injection h with h; subst h; exact bshr_u32 _ _ _ _ (Int.natCast_nonneg y)
    | _ => cases h
  wrap := wrap_u32
instance : KW .u64 64 where
  bin := by
    intro op T a b c h
    cases op with
    | add => injection h with h; subst h; exact badd_u64 _ _ _
    | sub => injection h with h; subst h; exact bsub_u64 _ _ _
    | mul => injection h with h; subst h; exact bmul_u64 _ _ _
    | and => injection h with h; subst h; exact band_u64 _ _ _
    | or => injection h with h; subst h; exact bor_u64 _ _ _
    | xor => injection h with h; subst h; exact bxor_u64 _ _ _
    | andNot => injection h with h; subst h; exact bandNot_u64 _ _ _
    | _ => cases h
  cmp := fun op T a b c h => cmp_all _ op T a b c h
  shift := by
    intro op T a c yk y h
    cases op with
    | shl => injection h with h; subst h; exact bshl_u64 _ _ _ _ (Int.natCast_nonneg y)
    | shr => injection h with h; subst h; exact bshr_u64 _ _ _ _ (Int.natCast_nonneg y)
    | _ => cases h
  wrap := wrap_u64
/-! ### Whole numbers of Go's int, from 0 on -/
def natCmp (op : BinOp) (a b : Nat) : Option Bool := match op with
  | .eql => some (decide (a = b))
  | .neq => some (decide (a ≠ b))
  | .lss => some (decide (a < b))
  | .leq => some (decide (a ≤ b))
  | .gtr => some (decide (b < a))
  | .geq => some (decide (b ≤ a))
  | _ => none
theorem cmpN (k : IntKind) (op : BinOp) (T : TypeId) (a b : Nat) (c : Bool) (h : natCmp op a b = some c) : binOp op T (.int k (a : Int)) (.int k (b : Int)) = Pure.pure (.bool c) := by
  cases op <;> simp only [natCmp] at h <;> first
    | (injection h with h; subst h; rw [binOp_cmp _ _ _ _ _ (by simp)]; simp only [Op.intCmp]; congr 2; first | (rw [Bool.eq_iff_iff]; simp; omega) | (rw [Bool.eq_iff_iff]; simp))
    | cases h
theorem wrapN {x : Int} (h0 : -9223372036854775808 ≤ x) (h1 : x < 9223372036854775808) : IntKind.i64.wrap x = x := IntWalk.i64_in x (by omega)
theorem addN (T : TypeId) (a b : Nat) (h : a + b < 9223372036854775808) : binOp .add T (.int .i64 (a : Int)) (.int .i64 (b : Int)) = Pure.pure (.int .i64 ((a + b : Nat) : Int)) := by
  rw [binOp_add]; simp only [Op.intArith]; rw [wrapN (by omega) (by omega)]; rfl
theorem mulN (T : TypeId) (a b : Nat) (h : a * b < 9223372036854775808) : binOp .mul T (.int .i64 (a : Int)) (.int .i64 (b : Int)) = Pure.pure (.int .i64 ((a * b : Nat) : Int)) := by
  rw [binOp_mul]; simp only [Op.intArith]; rw [← Int.natCast_mul, wrapN (by omega) (by omega)]
theorem subN (T : TypeId) (a b : Nat) (hb : b ≤ a) (h : a < 9223372036854775808) : binOp .sub T (.int .i64 (a : Int)) (.int .i64 (b : Int)) = Pure.pure (.int .i64 ((a - b : Nat) : Int)) := by
  rw [binOp_sub]; simp only [Op.intArith]; rw [wrapN (by omega) (by omega), Int.natCast_sub hb]
theorem remN (T : TypeId) (a b : Nat) (hb : 0 < b) : binOp .rem T (.int .i64 (a : Int)) (.int .i64 (b : Int)) = Pure.pure (.int .i64 ((a % b : Nat) : Int)) := by
  have h : binOp .rem T (.int .i64 (a : Int)) (.int .i64 (b : Int)) = Op.intDiv .rem .i64 a b := by simp [binOp]
  rw [h]
  simp only [Op.intDiv]
  rw [if_neg (by omega)]
  rw [Int.ofNat_tmod]
theorem quoN (T : TypeId) (a b : Nat) (hb : 0 < b) (h : a < 9223372036854775808) : binOp .quo T (.int .i64 (a : Int)) (.int .i64 (b : Int)) = Pure.pure (.int .i64 ((a / b : Nat) : Int)) := by
  have h' : binOp .quo T (.int .i64 (a : Int)) (.int .i64 (b : Int)) = Op.intDiv .quo .i64 a b := by simp [binOp]
  rw [h']
  simp only [Op.intDiv]
  rw [if_neg (by omega), ← Int.ofNat_tdiv]
  have : a / b ≤ a := Nat.div_le_self a b
  generalize a / b = q at *
  rw [wrapN (by omega) (by omega)]
section
variable {P : Program} {N lo : Nat} {nx : Nat} {fr : Fr} {mem : Mem} {K : St → Prop} {ops : Array Oper} {rest : List Oper} {dr : Bool} {lg : List Foot} {ty : TypeId} {pos : String} {af : Array Edge} {d : Tmp} {v : Value} {x y : Operand}
theorem L.move (hx : aeval fr x = some v) (hd : dstOk (some d) N = true) (h : SpL P N lo ops dr rest ⟨nx, (d, v) :: fr, mem, ⟨[], []⟩ :: lg⟩ K) : SpL P N lo ops dr (⟨some d, .move x, ty, pos, af, none⟩ :: rest) ⟨nx, fr, mem, lg⟩ K :=
  SpL.pure (PureOp.move hx) rfl (dstOut hd) h
theorem L.assign (hx : aeval fr x = some v) (hd : dstOk (some d) N = true) (h : SpL P N lo ops dr rest ⟨nx, (d, v) :: fr, mem, ⟨[], []⟩ :: lg⟩ K) : SpL P N lo ops dr (⟨some d, .assign x, ty, pos, af, none⟩ :: rest) ⟨nx, fr, mem, lg⟩ K :=
  SpL.pure (PureOp.assign hx) rfl (dstOut hd) h
theorem L.bv {k : IntKind} {n : Nat} [KW k n] {a b c : BitVec n} {op : BinOp} {T T' : TypeId} (hx : aeval fr x = some (.int k (nb a))) (hy : aeval fr y = some (.int k (nb b))) (hc : bvBin op a b = some c) (hd : dstOk (some d) N = true)
    (h : SpL P N lo ops dr rest ⟨nx, (d, .int k (nb c)) :: fr, mem, ⟨[], []⟩ :: lg⟩ K) : SpL P N lo ops dr (⟨some d, .binOp op T x y T', ty, pos, af, none⟩ :: rest) ⟨nx, fr, mem, lg⟩ K :=
  SpL.pure (PureOp.bin hx hy (KW.bin op T a b c hc) (fun _ => rfl)) rfl (dstOut hd) h
theorem L.bvCmp {k : IntKind} {n : Nat} [KW k n] {a b : BitVec n} {c : Bool} {op : BinOp} {T T' : TypeId} (hx : aeval fr x = some (.int k (nb a))) (hy : aeval fr y = some (.int k (nb b))) (hc : bvCmp op a b = some c) (hd : dstOk (some d) N = true)
    (h : SpL P N lo ops dr rest ⟨nx, (d, .bool c) :: fr, mem, ⟨[], []⟩ :: lg⟩ K) : SpL P N lo ops dr (⟨some d, .binOp op T x y T', ty, pos, af, none⟩ :: rest) ⟨nx, fr, mem, lg⟩ K :=
  SpL.pure (PureOp.bin hx hy (KW.cmp op T a b c hc) (fun _ => rfl)) rfl (dstOut hd) h
theorem L.shiftB {k yk : IntKind} {n m : Nat} [KW k n] {a c : BitVec n} {b : BitVec m} {op : BinOp} {T T' : TypeId} (hx : aeval fr x = some (.int k (nb a))) (hy : aeval fr y = some (.int yk (nb b))) (hc : bvShift op a b.toNat = some c) (hd : dstOk (some d) N = true)
    (h : SpL P N lo ops dr rest ⟨nx, (d, .int k (nb c)) :: fr, mem, ⟨[], []⟩ :: lg⟩ K) : SpL P N lo ops dr (⟨some d, .binOp op T x y T', ty, pos, af, none⟩ :: rest) ⟨nx, fr, mem, lg⟩ K :=
  SpL.pure (PureOp.bin hx hy (KW.shift op T a c yk b.toNat hc) (fun _ => rfl)) rfl (dstOut hd) h
theorem L.shiftN {k yk : IntKind} {n b : Nat} [KW k n] {a c : BitVec n} {op : BinOp} {T T' : TypeId} (hx : aeval fr x = some (.int k (nb a))) (hy : aeval fr y = some (.int yk (b : Int))) (hc : bvShift op a b = some c) (hd : dstOk (some d) N = true)
    (h : SpL P N lo ops dr rest ⟨nx, (d, .int k (nb c)) :: fr, mem, ⟨[], []⟩ :: lg⟩ K) : SpL P N lo ops dr (⟨some d, .binOp op T x y T', ty, pos, af, none⟩ :: rest) ⟨nx, fr, mem, lg⟩ K :=
  SpL.pure (PureOp.bin hx hy (KW.shift op T a c yk b hc) (fun _ => rfl)) rfl (dstOut hd) h
theorem L.cmpN {k : IntKind} {a b : Nat} {c : Bool} {op : BinOp} {T T' : TypeId} (hx : aeval fr x = some (.int k (a : Int))) (hy : aeval fr y = some (.int k (b : Int))) (hc : natCmp op a b = some c) (hd : dstOk (some d) N = true)
    (h : SpL P N lo ops dr rest ⟨nx, (d, .bool c) :: fr, mem, ⟨[], []⟩ :: lg⟩ K) : SpL P N lo ops dr (⟨some d, .binOp op T x y T', ty, pos, af, none⟩ :: rest) ⟨nx, fr, mem, lg⟩ K :=
  SpL.pure (PureOp.bin hx hy (Sl.cmpN k op T a b c hc) (fun _ => rfl)) rfl (dstOut hd) h
theorem L.addN {a b : Nat} {T T' : TypeId} (hx : aeval fr x = some (.int .i64 (a : Int))) (hy : aeval fr y = some (.int .i64 (b : Int))) (hb : a + b < 9223372036854775808) (hd : dstOk (some d) N = true)
    (h : SpL P N lo ops dr rest ⟨nx, (d, .int .i64 ((a + b : Nat) : Int)) :: fr, mem, ⟨[], []⟩ :: lg⟩ K) : SpL P N lo ops dr (⟨some d, .binOp .add T x y T', ty, pos, af, none⟩ :: rest) ⟨nx, fr, mem, lg⟩ K :=
  SpL.pure (PureOp.bin hx hy (Sl.addN T a b hb) (fun _ => rfl)) rfl (dstOut hd) h
theorem L.mulN {a b : Nat} {T T' : TypeId} (hx : aeval fr x = some (.int .i64 (a : Int))) (hy : aeval fr y = some (.int .i64 (b : Int))) (hb : a * b < 9223372036854775808) (hd : dstOk (some d) N = true)
    (h : SpL P N lo ops dr rest ⟨nx, (d, .int .i64 ((a * b : Nat) : Int)) :: fr, mem, ⟨[], []⟩ :: lg⟩ K) : SpL P N lo ops dr (⟨some d, .binOp .mul T x y T', ty, pos, af, none⟩ :: rest) ⟨nx, fr, mem, lg⟩ K :=
  SpL.pure (PureOp.bin hx hy (Sl.mulN T a b hb) (fun _ => rfl)) rfl (dstOut hd) h
theorem L.subN {a b : Nat} {T T' : TypeId} (hx : aeval fr x = some (.int .i64 (a : Int))) (hy : aeval fr y = some (.int .i64 (b : Int))) (hb : b ≤ a) (ha : a < 9223372036854775808) (hd : dstOk (some d) N = true)
    (h : SpL P N lo ops dr rest ⟨nx, (d, .int .i64 ((a - b : Nat) : Int)) :: fr, mem, ⟨[], []⟩ :: lg⟩ K) : SpL P N lo ops dr (⟨some d, .binOp .sub T x y T', ty, pos, af, none⟩ :: rest) ⟨nx, fr, mem, lg⟩ K :=
  SpL.pure (PureOp.bin hx hy (Sl.subN T a b hb ha) (fun _ => rfl)) rfl (dstOut hd) h
theorem L.remN {a b : Nat} {T T' : TypeId} (hx : aeval fr x = some (.int .i64 (a : Int))) (hy : aeval fr y = some (.int .i64 (b : Int))) (hb : 0 < b) (hd : dstOk (some d) N = true)
    (h : SpL P N lo ops dr rest ⟨nx, (d, .int .i64 ((a % b : Nat) : Int)) :: fr, mem, ⟨[], []⟩ :: lg⟩ K) : SpL P N lo ops dr (⟨some d, .binOp .rem T x y T', ty, pos, af, none⟩ :: rest) ⟨nx, fr, mem, lg⟩ K :=
  SpL.pure (PureOp.bin hx hy (Sl.remN T a b hb) (fun _ => rfl)) rfl (dstOut hd) h
theorem L.quoN {a b : Nat} {T T' : TypeId} (hx : aeval fr x = some (.int .i64 (a : Int))) (hy : aeval fr y = some (.int .i64 (b : Int))) (hb : 0 < b) (ha : a < 9223372036854775808) (hd : dstOk (some d) N = true)
    (h : SpL P N lo ops dr rest ⟨nx, (d, .int .i64 ((a / b : Nat) : Int)) :: fr, mem, ⟨[], []⟩ :: lg⟩ K) : SpL P N lo ops dr (⟨some d, .binOp .quo T x y T', ty, pos, af, none⟩ :: rest) ⟨nx, fr, mem, lg⟩ K :=
  SpL.pure (PureOp.bin hx hy (Sl.quoN T a b hb ha) (fun _ => rfl)) rfl (dstOut hd) h
/-- Any operation on two numbers. -/
theorem L.binI {k k' k2 : IntKind} {m n r : Int} {op : BinOp} {T T' : TypeId} (hx : aeval fr x = some (.int k m)) (hy : aeval fr y = some (.int k' n)) (hc : binOp op T (.int k m) (.int k' n) = Pure.pure (.int k2 r)) (hd : dstOk (some d) N = true)
    (h : SpL P N lo ops dr rest ⟨nx, (d, .int k2 r) :: fr, mem, ⟨[], []⟩ :: lg⟩ K) : SpL P N lo ops dr (⟨some d, .binOp op T x y T', ty, pos, af, none⟩ :: rest) ⟨nx, fr, mem, lg⟩ K :=
  SpL.pure (PureOp.bin hx hy hc (fun _ => rfl)) rfl (dstOut hd) h
theorem L.binC {k k' : IntKind} {m n : Int} {r : Bool} {op : BinOp} {T T' : TypeId} (hx : aeval fr x = some (.int k m)) (hy : aeval fr y = some (.int k' n)) (hc : binOp op T (.int k m) (.int k' n) = Pure.pure (.bool r)) (hd : dstOk (some d) N = true)
    (h : SpL P N lo ops dr rest ⟨nx, (d, .bool r) :: fr, mem, ⟨[], []⟩ :: lg⟩ K) : SpL P N lo ops dr (⟨some d, .binOp op T x y T', ty, pos, af, none⟩ :: rest) ⟨nx, fr, mem, lg⟩ K :=
  SpL.pure (PureOp.bin hx hy hc (fun _ => rfl)) rfl (dstOut hd) h
theorem L.not {b : Bool} {T : TypeId} (hx : aeval fr x = some (.bool b)) (hd : dstOk (some d) N = true)
    (h : SpL P N lo ops dr rest ⟨nx, (d, .bool (!b)) :: fr, mem, ⟨[], []⟩ :: lg⟩ K) : SpL P N lo ops dr (⟨some d, .unOp .not T x, ty, pos, af, none⟩ :: rest) ⟨nx, fr, mem, lg⟩ K :=
  SpL.pure (PureOp.un hx (fun E u h => h) rfl (fun _ => rfl)) rfl (dstOut hd) h
/-- From a fixed width to a fixed width. -/
theorem L.convB {k k' : IntKind} {n n' : Nat} [KW k n] [KW k' n'] {A B : TypeId} [TK P A k] [TK P B k'] {a : BitVec n} (hx : aeval fr x = some (.int k (nb a))) (hd : dstOk (some d) N = true)
    (h : SpL P N lo ops dr rest ⟨nx, (d, .int k' (nb (a.setWidth n'))) :: fr, mem, ⟨[], []⟩ :: lg⟩ K) : SpL P N lo ops dr (⟨some d, .convert A B x, ty, pos, af, none⟩ :: rest) ⟨nx, fr, mem, lg⟩ K := by
  refine SpL.pure (PureOp.conv hx (TK.un) (TK.un) (k' := k') (v := .int k' (nb (a.setWidth n'))) ?_ (fun _ => rfl)) rfl (dstOut hd) h
  unfold Conv.intToInt
  rw [KW.wrap (k := k')]
  congr 3
  unfold nb
  apply BitVec.eq_of_toNat_eq
  simp
/-- From int to a fixed width. -/
theorem L.convI {k' : IntKind} {n' : Nat} [KW k' n'] {A B : TypeId} [TK P A .i64] [TK P B k'] {a : Int} (hx : aeval fr x = some (.int .i64 a)) (hd : dstOk (some d) N = true)
    (h : SpL P N lo ops dr rest ⟨nx, (d, .int k' (nb (BitVec.ofInt n' a))) :: fr, mem, ⟨[], []⟩ :: lg⟩ K) : SpL P N lo ops dr (⟨some d, .convert A B x, ty, pos, af, none⟩ :: rest) ⟨nx, fr, mem, lg⟩ K := by
  refine SpL.pure (PureOp.conv hx (TK.un) (TK.un) (k' := k') (v := .int k' (nb (BitVec.ofInt n' a))) ?_ (fun _ => rfl)) rfl (dstOut hd) h
  unfold Conv.intToInt
  rw [KW.wrap (k := k')]
theorem L.extract {i : Nat} {vs : Array Value} (hx : aeval fr x = some (.tuple vs)) (hv : vs[i]? = some v) (h2 : (match v with | .tuple _ => false | _ => true) = true) (hd : dstOk (some d) N = true)
    (h : SpL P N lo ops dr rest ⟨nx, (d, v) :: fr, mem, ⟨[], []⟩ :: lg⟩ K) : SpL P N lo ops dr (⟨some d, .extract x i, ty, pos, af, none⟩ :: rest) ⟨nx, fr, mem, lg⟩ K :=
  SpL.pure (PureOp.extract hx hv (fun cs e => by subst e; cases h2)) rfl (dstOut hd) h
/-- An element's address: of an array whose elements have one cell. -/
theorem L.atA {T e : TypeId} {len n o j : Nat} {b : Bool} {k : IntKind} [TA P T len e] [TI P e b 1] (hx : aeval fr x = some (.pointer (some ⟨n, o, none⟩))) (hy : aeval fr y = some (.int k (j : Int))) (hj : j < len) (hd : dstOk (some d) N = true)
    (h : SpL P N lo ops dr rest ⟨nx, (d, .pointer (some ⟨n, o + j, none⟩)) :: fr, mem, ⟨[], []⟩ :: lg⟩ K) : SpL P N lo ops dr (⟨some d, .indexAddr T x y, ty, pos, af, none⟩ :: rest) ⟨nx, fr, mem, lg⟩ K := by
  have := PureOp.indexAddrA (P := P) (d := some d) (ty := ty) (pos := pos) (af := af) (g := none) hx hy (TA.un (P := P) (t := T) (len := len) (e := e)) (TI.sz (P := P) (t := e) (agg := b) (sz := 1)) rfl hj
  rw [Nat.mul_one] at this
  exact SpL.pure this rfl (dstOut hd) h
theorem L.atA0 {T e : TypeId} {len n j : Nat} {b : Bool} {k : IntKind} [TA P T len e] [TI P e b 1] (hx : aeval fr x = some (.pointer (some ⟨n, 0, none⟩))) (hy : aeval fr y = some (.int k (j : Int))) (hj : j < len) (hd : dstOk (some d) N = true)
    (h : SpL P N lo ops dr rest ⟨nx, (d, .pointer (some ⟨n, j, none⟩)) :: fr, mem, ⟨[], []⟩ :: lg⟩ K) : SpL P N lo ops dr (⟨some d, .indexAddr T x y, ty, pos, af, none⟩ :: rest) ⟨nx, fr, mem, lg⟩ K :=
  L.atA hx hy hj hd (by rw [Nat.zero_add]; exact h)
theorem L.atS {T e : TypeId} {len cp n o j : Nat} {b : Bool} {k : IntKind} [TS P T e] [TI P e b 1] (hx : aeval fr x = some (.slice (some ⟨n, o, none⟩) len cp)) (hy : aeval fr y = some (.int k (j : Int))) (hj : j < len) (hd : dstOk (some d) N = true)
    (h : SpL P N lo ops dr rest ⟨nx, (d, .pointer (some ⟨n, o + j, none⟩)) :: fr, mem, ⟨[], []⟩ :: lg⟩ K) : SpL P N lo ops dr (⟨some d, .indexAddr T x y, ty, pos, af, none⟩ :: rest) ⟨nx, fr, mem, lg⟩ K := by
  have := PureOp.indexAddrS (P := P) (d := some d) (ty := ty) (pos := pos) (af := af) (g := none) hx hy (TS.un (P := P) (t := T) (e := e)) (TI.sz (P := P) (t := e) (agg := b) (sz := 1)) rfl hj
  rw [Nat.mul_one] at this
  exact SpL.pure this rfl (dstOut hd) h
theorem L.atS0 {T e : TypeId} {len cp n j : Nat} {b : Bool} {k : IntKind} [TS P T e] [TI P e b 1] (hx : aeval fr x = some (.slice (some ⟨n, 0, none⟩) len cp)) (hy : aeval fr y = some (.int k (j : Int))) (hj : j < len) (hd : dstOk (some d) N = true)
    (h : SpL P N lo ops dr rest ⟨nx, (d, .pointer (some ⟨n, j, none⟩)) :: fr, mem, ⟨[], []⟩ :: lg⟩ K) : SpL P N lo ops dr (⟨some d, .indexAddr T x y, ty, pos, af, none⟩ :: rest) ⟨nx, fr, mem, lg⟩ K :=
  L.atS hx hy hj hd (by rw [Nat.zero_add]; exact h)
/-- A number is read out of an array. -/
theorem L.loadW {t : TypeId} {n o w sz : Nat} {k : IntKind} {l : List (BitVec w)} {opn rw : Bool} [TI P t false sz] (hx : aeval fr x = some (.pointer (some ⟨n, o, none⟩))) (hm : mfind mem n = some (.cells (arr k l) opn rw)) (hi : o < l.length) (hd : dstOk (some d) N = true)
    (h : SpL P N lo ops dr rest ⟨nx, (d, .int k (nb (at_ l o))) :: fr, mem, ⟨[n], []⟩ :: lg⟩ K) : SpL P N lo ops dr (⟨some d, .load t x, ty, pos, af, none⟩ :: rest) ⟨nx, fr, mem, lg⟩ K :=
  SpL.read (fun rw => ReadOp.load hx (arr_get k l o hi) (TI.ag (sz := sz))) hm rfl (dstOut hd) h
/-- A value is read out of its cell. -/
theorem L.load {t : TypeId} {n o sz : Nat} {C : Array Value} {opn rw : Bool} [TI P t false sz] (hx : aeval fr x = some (.pointer (some ⟨n, o, none⟩))) (hm : mfind mem n = some (.cells C opn rw)) (hv : C[o]? = some v) (hd : dstOk (some d) N = true)
    (h : SpL P N lo ops dr rest ⟨nx, (d, v) :: fr, mem, ⟨[n], []⟩ :: lg⟩ K) : SpL P N lo ops dr (⟨some d, .load t x, ty, pos, af, none⟩ :: rest) ⟨nx, fr, mem, lg⟩ K :=
  SpL.read (fun rw => ReadOp.load hx hv (TI.ag (sz := sz))) hm rfl (dstOut hd) h
/-- A whole array (or struct) is read. -/
theorem L.loadA {t : TypeId} {n sz : Nat} {C : Array Value} {opn rw : Bool} [TI P t true sz] (hx : aeval fr x = some (.pointer (some ⟨n, 0, none⟩))) (hm : mfind mem n = some (.cells C opn rw)) (hs : C.size = sz) (hd : dstOk (some d) N = true)
    (h : SpL P N lo ops dr rest ⟨nx, (d, .agg C) :: fr, mem, ⟨[n], []⟩ :: lg⟩ K) : SpL P N lo ops dr (⟨some d, .load t x, ty, pos, af, none⟩ :: rest) ⟨nx, fr, mem, lg⟩ K := by
  refine SpL.read (v := .agg C) (fun rw => ?_) hm rfl (dstOut hd) h
  have := ReadOp.loadA (P := P) (d := some d) (t := t) (ty := ty) (pos := pos) (af := af) (g := none) (opn := opn) (rw := rw) (C := C) hx (TI.ag (sz := sz)) (TI.sz (agg := true)) (by omega)
  rwa [show C.extract 0 (0 + sz) = C by rw [Nat.zero_add, ← hs]; simp] at this
theorem L.loadArr {t : TypeId} {n sz w : Nat} {k : IntKind} {l : List (BitVec w)} {opn rw : Bool} [TI P t true sz] (hx : aeval fr x = some (.pointer (some ⟨n, 0, none⟩))) (hm : mfind mem n = some (.cells (arr k l) opn rw)) (hs : l.length = sz) (hd : dstOk (some d) N = true)
    (h : SpL P N lo ops dr rest ⟨nx, (d, .agg (arr k l)) :: fr, mem, ⟨[n], []⟩ :: lg⟩ K) : SpL P N lo ops dr (⟨some d, .load t x, ty, pos, af, none⟩ :: rest) ⟨nx, fr, mem, lg⟩ K :=
  L.loadA hx hm (by rw [arr_size]; exact hs) hd h
theorem L.alloc {t : TypeId} {C : Array Value} [TZ P t C] (hd : dstOk (some d) N = true) (hn : Nat.ble (nx + 1) GB = true)
    (h : SpL P N lo ops dr rest ⟨nx + 1, (d, .pointer (some ⟨nx, 0, none⟩)) :: fr, (nx, some (.cells C false true)) :: mem, ⟨[], [nx]⟩ :: lg⟩ K) : SpL P N lo ops dr (⟨some d, .alloc t, ty, pos, af, none⟩ :: rest) ⟨nx, fr, mem, lg⟩ K := by
  obtain ⟨z, hz, hC⟩ := TZ.zero (P := P) (t := t) (C := C)
  exact SpL.make (MakeOp.alloc hz hC (TZ.plain P t)) rfl (dstOut hd) hn h
theorem L.boxA {t : TypeId} {C : Array Value} (hx : aeval fr x = some (.agg C)) (hd : dstOk (some d) N = true) (hn : Nat.ble (nx + 1) GB = true)
    (h : SpL P N lo ops dr rest ⟨nx + 1, (d, .pointer (some ⟨nx, 0, none⟩)) :: fr, (nx, some (.cells C false true)) :: mem, ⟨[], [nx]⟩ :: lg⟩ K) : SpL P N lo ops dr (⟨some d, .box t x, ty, pos, af, none⟩ :: rest) ⟨nx, fr, mem, lg⟩ K :=
  SpL.make (MakeOp.box hx) rfl (dstOut hd) hn h
theorem L.box1 {t : TypeId} (hx : aeval fr x = some v) (h1 : one1 v = true) (hd : dstOk (some d) N = true) (hn : Nat.ble (nx + 1) GB = true)
    (h : SpL P N lo ops dr rest ⟨nx + 1, (d, .pointer (some ⟨nx, 0, none⟩)) :: fr, (nx, some (.cells #[v] false true)) :: mem, ⟨[], [nx]⟩ :: lg⟩ K) : SpL P N lo ops dr (⟨some d, .box t x, ty, pos, af, none⟩ :: rest) ⟨nx, fr, mem, lg⟩ K :=
  SpL.make (MakeOp.box1 hx h1) rfl (dstOut hd) hn h
/-- A number is stored into an array. -/
theorem L.storeW {t : TypeId} {n o w : Nat} {b : Bool} {k : IntKind} {l : List (BitVec w)} {c : BitVec w} {opn : Bool} [TI P t b 1] (hx : aeval fr x = some (.pointer (some ⟨n, o, none⟩))) (hm : mfind mem n = some (.cells (arr k l) opn true)) (hy : aeval fr y = some (.int k (nb c))) (hi : o < l.length)
    (h : SpL P N lo ops dr rest ⟨nx, fr, (n, some (.cells (arr k (l.set o c)) opn true)) :: mem, ⟨[n], [n]⟩ :: lg⟩ K) : SpL P N lo ops dr (⟨none, .store t x y, ty, pos, af, none⟩ :: rest) ⟨nx, fr, mem, lg⟩ K := by
  refine SpL.write (WriteOp.store hx hy rfl (TI.sz (agg := b)) (by rw [arr_size]; exact hi)) hm rfl (fun d h => by cases h) ?_
  rw [arr_set]; exact h
theorem L.store {t : TypeId} {n o : Nat} {b : Bool} {C : Array Value} {opn : Bool} [TI P t b 1] (hx : aeval fr x = some (.pointer (some ⟨n, o, none⟩))) (hm : mfind mem n = some (.cells C opn true)) (hy : aeval fr y = some v) (h1 : one1 v = true) (hi : o < C.size)
    (h : SpL P N lo ops dr rest ⟨nx, fr, (n, some (.cells (C.setIfInBounds o v) opn true)) :: mem, ⟨[n], [n]⟩ :: lg⟩ K) : SpL P N lo ops dr (⟨none, .store t x y, ty, pos, af, none⟩ :: rest) ⟨nx, fr, mem, lg⟩ K :=
  SpL.write (WriteOp.store hx hy h1 (TI.sz (agg := b)) hi) hm rfl (fun d h => by cases h) h
/-- A whole array is stored. -/
theorem L.storeA {t : TypeId} {n sz : Nat} {b : Bool} {C X : Array Value} {opn : Bool} [TI P t b sz] (hx : aeval fr x = some (.pointer (some ⟨n, 0, none⟩))) (hm : mfind mem n = some (.cells C opn true)) (hy : aeval fr y = some (.agg X)) (hs : X.size = sz) (hC : C.size = sz)
    (h : SpL P N lo ops dr rest ⟨nx, fr, (n, some (.cells X opn true)) :: mem, ⟨[n], [n]⟩ :: lg⟩ K) : SpL P N lo ops dr (⟨none, .store t x y, ty, pos, af, none⟩ :: rest) ⟨nx, fr, mem, lg⟩ K := by
  subst hs
  refine SpL.write (WriteOp.storeA hx hy (TI.sz (agg := b)) (by omega)) hm rfl (fun d h => by cases h) ?_
  rw [overlay_all hC.symm]; exact h
theorem L.storeArr {t : TypeId} {n sz w w' : Nat} {b : Bool} {k k' : IntKind} {l : List (BitVec w)} {l' : List (BitVec w')} {opn : Bool} [TI P t b sz] (hx : aeval fr x = some (.pointer (some ⟨n, 0, none⟩))) (hm : mfind mem n = some (.cells (arr k' l') opn true)) (hy : aeval fr y = some (.agg (arr k l))) (hs : l.length = sz) (hC : l'.length = sz)
    (h : SpL P N lo ops dr rest ⟨nx, fr, (n, some (.cells (arr k l) opn true)) :: mem, ⟨[n], [n]⟩ :: lg⟩ K) : SpL P N lo ops dr (⟨none, .store t x y, ty, pos, af, none⟩ :: rest) ⟨nx, fr, mem, lg⟩ K :=
  L.storeA hx hm hy (by rw [arr_size]; exact hs) (by rw [arr_size]; exact hC) h
end
/-! ### Control, as it is applied -/
section
variable {P : Program} {N lo : Nat} {s : St} {K : Exit → St → Prop}
theorem C.region {id : Nat} {l : List Oper} {nx : Nat} {fr : Fr} {mem : Mem} {lg : List Foot} (h : SpL P N lo l.toArray false l ⟨nx, fr, mem, []⟩ (fun s' => K .normal s')) : Sp P N lo (.region id l.toArray false) ⟨nx, fr, mem, lg⟩ K := Sp.region h
theorem L.nil {ops : Array Oper} {nx : Nat} {fr : Fr} {mem : Mem} {lg : List Foot} {K : St → Prop} (h : K ⟨nx, fr, mem, []⟩) : SpL P N lo ops false [] ⟨nx, fr, mem, lg⟩ K := SpL.nil (fun h => by cases h) h
theorem L.nilD {ops : Array Oper} {nx : Nat} {fr : Fr} {mem : Mem} {lg : List Foot} {K : St → Prop} (hd : dynB ops.toList lg = true) (h : K ⟨nx, fr, mem, []⟩) : SpL P N lo ops true [] ⟨nx, fr, mem, lg⟩ K := SpL.nil (fun _ => hd) h
theorem C.next {y : Code} (h : Sp P N lo y s K) : seqK (fun s' => Sp P N lo y s' K) K .normal s := h
end
end Go.Proofs.YtbfakdpnefhgkaaDoor.Sl
