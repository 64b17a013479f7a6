/-
  More laws, as they are applied: numbers, ends, calls that make, from a law to its walk.
-/
import Derived.Test.YtbfakdpnefhgkaaDoorSq
import Derived.Laws.Small
set_option linter.unusedSimpArgs false
set_option linter.unusedVariables false
namespace Go.Proofs.YtbfakdpnefhgkaaDoor.Sl
open Go Go.RowKit Bv Mem
theorem lk {a b : Bool} (h : a = b) : some (Value.bool a) = some (Value.bool b) := by rw [h]
section
variable {P : Program} {N lo : Nat} {nx : Nat} {fr : Fr} {mem : Mem} {K : St → Prop} {ops : Array Oper} {rest : List Oper} {dr : Bool} {lg : List Foot} {ty : TypeId} {pos : String} {af : Array Edge} {d : Tmp} {v : Value} {x y : Operand}
/-- A whole number to a word. -/
theorem L.convN {k' : IntKind} {n' a : Nat} [KW k' n'] {A B : TypeId} [TK P A .i64] [TK P B k'] (hx : aeval fr x = some (.int .i64 (a : Int))) (hd : dstOk (some d) N = true)
    (h : SpL P N lo ops dr rest ⟨nx, (d, .int k' (nb (BitVec.ofNat n' a))) :: fr, mem, ⟨[], []⟩ :: lg⟩ K) : SpL P N lo ops dr (⟨some d, .convert A B x, ty, pos, af, none⟩ :: rest) ⟨nx, fr, mem, lg⟩ K :=
  L.convI (k' := k') (n' := n') hx hd (by rw [BitVec.ofInt_natCast]; exact h)
/-- A word to a whole number. -/
theorem L.convW {k : IntKind} {n : Nat} [KW k n] {A B : TypeId} [TK P A k] [TK P B .i64] {a : BitVec n} (hx : aeval fr x = some (.int k (nb a))) (ha : a.toNat < 9223372036854775808) (hd : dstOk (some d) N = true)
    (h : SpL P N lo ops dr rest ⟨nx, (d, .int .i64 (a.toNat : Int)) :: fr, mem, ⟨[], []⟩ :: lg⟩ K) : SpL P N lo ops dr (⟨some d, .convert A B x, ty, pos, af, none⟩ :: rest) ⟨nx, fr, mem, lg⟩ K := by
  refine SpL.pure (PureOp.conv hx (TK.un) (TK.un) (k' := .i64) (v := .int .i64 (a.toNat : Int)) ?_ (fun _ => rfl)) rfl (dstOut hd) h
  unfold Conv.intToInt
  rw [wrapN (by unfold nb; omega) (by unfold nb; omega)]
  rfl
theorem L.atAs {T e : TypeId} {len n o j sz : Nat} {b : Bool} {k : IntKind} [TA P T len e] [TI P e b sz] (hx : aeval fr x = some (.pointer (some ⟨n, o, none⟩))) (hy : aeval fr y = some (.int k (j : Int))) (hj : j < len) (hd : dstOk (some d) N = true)
    (h : SpL P N lo ops dr rest ⟨nx, (d, .pointer (some ⟨n, o + j * sz, none⟩)) :: fr, mem, ⟨[], []⟩ :: lg⟩ K) : SpL P N lo ops dr (⟨some d, .indexAddr T x y, ty, pos, af, none⟩ :: rest) ⟨nx, fr, mem, lg⟩ K := by
  have := PureOp.indexAddrA (P := P) (d := some d) (ty := ty) (pos := pos) (af := af) (g := none) hx hy (TA.un (P := P) (t := T) (len := len) (e := e)) (TI.sz (P := P) (t := e) (agg := b) (sz := sz)) rfl hj
  exact SpL.pure this rfl (dstOut hd) h
theorem L.atA0s {T e : TypeId} {len n j sz : Nat} {b : Bool} {k : IntKind} [TA P T len e] [TI P e b sz] (hx : aeval fr x = some (.pointer (some ⟨n, 0, none⟩))) (hy : aeval fr y = some (.int k (j : Int))) (hj : j < len) (hd : dstOk (some d) N = true)
    (h : SpL P N lo ops dr rest ⟨nx, (d, .pointer (some ⟨n, j * sz, none⟩)) :: fr, mem, ⟨[], []⟩ :: lg⟩ K) : SpL P N lo ops dr (⟨some d, .indexAddr T x y, ty, pos, af, none⟩ :: rest) ⟨nx, fr, mem, lg⟩ K :=
  L.atAs hx hy hj hd (by rw [Nat.zero_add]; exact h)
theorem L.atS0s {T e : TypeId} {len cp n j sz : Nat} {b : Bool} {k : IntKind} [TS P T e] [TI P e b sz] (hx : aeval fr x = some (.slice (some ⟨n, 0, none⟩) len cp)) (hy : aeval fr y = some (.int k (j : Int))) (hj : j < len) (hd : dstOk (some d) N = true)
    (h : SpL P N lo ops dr rest ⟨nx, (d, .pointer (some ⟨n, j * sz, none⟩)) :: fr, mem, ⟨[], []⟩ :: lg⟩ K) : SpL P N lo ops dr (⟨some d, .indexAddr T x y, ty, pos, af, none⟩ :: rest) ⟨nx, fr, mem, lg⟩ K := by
  have := PureOp.indexAddrS (P := P) (d := some d) (ty := ty) (pos := pos) (af := af) (g := none) hx hy (TS.un (P := P) (t := T) (e := e)) (TI.sz (P := P) (t := e) (agg := b) (sz := sz)) rfl hj
  rw [Nat.zero_add] at this
  exact SpL.pure this rfl (dstOut hd) h
/-- Truths, whether they are the same. -/
def boolCmp (op : BinOp) (a b : Bool) : Option Bool := match op with
  | .eql => some (a == b)
  | .neq => some (a != b)
  | _ => none
theorem L.eqB {op : BinOp} {a b r : Bool} {T T' : TypeId} (hx : aeval fr x = some (.bool a)) (hy : aeval fr y = some (.bool b)) (hr : boolCmp op a b = some r) (hT : P.underlying T = some .bool) (hd : dstOk (some d) N = true)
    (h : SpL P N lo ops dr rest ⟨nx, (d, .bool r) :: fr, mem, ⟨[], []⟩ :: lg⟩ K) : SpL P N lo ops dr (⟨some d, .binOp op T x y T', ty, pos, af, none⟩ :: rest) ⟨nx, fr, mem, lg⟩ K := by
  refine SpL.pure (v := .bool r) ?_ rfl (dstOut hd) h
  intro E a' w hev
  have e1 : a'.eval x = .bool a := hev x (by simp [Op.operands]) _ hx
  have e2 : a'.eval y = .bool b := hev y (by simp [Op.operands]) _ hy
  refine ⟨.bool r, ?_, rfl⟩
  unfold execOp
  simp only [e1, e2, Sem.run_bind, eqGuard_bool, Result.andThen_ok]
  cases op <;> simp only [boolCmp] at hr <;> first
    | (injection hr with hr; subst hr; simp [binOp, run_equal_bool w T a b hT, bne]; done)
    | cases hr
end
/-- Two results in cells. -/
theorem retK.cAA {P : Program} {s : St} {K : Value → Mem → Prop} {t ty t' ty' : TypeId} {n sz n' sz' : Nat} {C C' : Array Value} {opn rw opn' rw' : Bool} [TI P ty true sz] [TI P ty' true sz'] (m' : Mem) (hx : look s.fr t = some (.pointer (some ⟨n, 0, none⟩))) (hm : mfind s.m n = some (.cells C opn rw)) (hs : C.size = sz)
    (hx' : look s.fr t' = some (.pointer (some ⟨n', 0, none⟩))) (hm' : mfind s.m n' = some (.cells C' opn' rw')) (hs' : C'.size = sz') (hl : Less m' s.m) (hk : K (.tuple #[.agg C, .agg C']) m') : retK P [.cell t ty, .cell t' ty'] K .ret s := by
  refine ⟨[.agg C, .agg C'], m', ⟨?_, ?_, trivial⟩, allNT rfl, hl, hk⟩
  · have := RV.cellA (P := P) hx hm (TI.ag (P := P) (t := ty) (sz := sz)) (TI.sz (P := P) (t := ty) (agg := true)) (by omega)
    rwa [show C.extract 0 (0 + sz) = C by rw [Nat.zero_add, ← hs]; simp] at this
  · have := RV.cellA (P := P) hx' hm' (TI.ag (P := P) (t := ty') (sz := sz')) (TI.sz (P := P) (t := ty') (agg := true)) (by omega)
    rwa [show C'.extract 0 (0 + sz') = C' by rw [Nat.zero_add, ← hs']; simp] at this
/-! ### From a contract to a walk -/
def E0 : Env := fun _ => none
class Self (v : Value) : Prop where
  r : ∀ E, R3 E v v
instance (k : IntKind) (n : Int) : Self (.int k n) := ⟨fun _ => rfl⟩
instance (b : Bool) : Self (.bool b) := ⟨fun _ => rfl⟩
instance (b : ByteArray) : Self (.string b) := ⟨fun _ => rfl⟩
instance (a b : Nat) : Self (.slice none a b) := ⟨fun _ => rfl⟩
instance (k : IntKind) {n : Nat} (l : List (BitVec n)) : Self (.agg (arr k l)) := ⟨fun E => ⟨_, rfl, rfl, fun i v hv => by
  refine ⟨v, hv, ?_⟩
  have hi : i < l.length := by have := (Array.getElem?_eq_some_iff.1 hv).1; rwa [arr_size] at this
  rw [arr_get k l i hi] at hv
  injection hv with hv
  subst hv
  exact rfl⟩⟩
class Selfs (vs : List Value) : Prop where
  all : ∀ v, v ∈ vs → Self v
instance : Selfs [] := ⟨fun v h => by cases h⟩
instance (v : Value) (vs : List Value) [h1 : Self v] [h2 : Selfs vs] : Selfs (v :: vs) := ⟨fun w h => by
  rcases List.mem_cons.1 h with rfl | h
  · exact h1
  · exact h2.all w h⟩
theorem AR.self {E : Env} {vs : List Value} (h : Selfs vs) : AR (R3 E) vs.toArray vs.toArray :=
  ⟨rfl, fun i v hv => ⟨v, hv, (h.all v (by simpa using Array.mem_of_getElem? hv)).r E⟩⟩
def TabAt (w : World) : Prop := ∀ g C, (g, C) ∈ tabs → ∃ t fz, w.heap[g]? = some (.cells C t fz)
/-- A law that is handed no memory. -/
theorem Fc.calls {P : Program} {f : Nat} {args : List Value} [hs : Selfs args] {K : Value → Mem → Prop} (h : Fc P f 0 args [] K) (w : World) (ht : TabAt w) {v0 : Value} (hK : ∀ v m, K v m → v = v0) (h0 : ∀ E u, R3 E v0 u → u = v0) :
    Calls P f args.toArray w fun e w' => e = .returned v0 ∧ Below w.heap.size w w' := by
  refine (h E0 args.toArray w (AR.self hs) ⟨⟨(fun n b h => by cases h), (fun n b n' b' l l' h => by cases h), (fun g l _ h => by cases h)⟩, fun g C hg => ⟨ht g C hg, ?_⟩⟩ (fun _ _ _ => rfl)).mono ?_
  · rintro ⟨n, b, l, h1, _⟩; cases h1
  · rintro e w' ⟨E', v, m', u, hk, rfl, hr, _, hst⟩
    obtain rfl := hK _ _ hk
    exact ⟨by rw [h0 _ _ hr], hst.kept.below fun n b h => by cases h⟩
/-! ### Calls that make -/
theorem UB.arr (f : Nm) (k : IntKind) {w : Nat} (r : List (BitVec w)) (opn rw : Bool) : UB f (.cells (arr k r) opn rw) (.cells (arr k r) opn rw) := by
  refine ⟨_, rfl, rfl, fun i v hv => ⟨v, hv, ?_⟩⟩
  have hi : i < r.length := by have := (Array.getElem?_eq_some_iff.1 hv).1; rwa [arr_size] at this
  rw [arr_get k r i hi] at hv
  injection hv with hv
  subst hv; rfl
section
variable {P : Program} {N lo : Nat} {nx : Nat} {fr : Fr} {mem : Mem} {K : St → Prop} {ops : Array Oper} {rest : List Oper} {dr : Bool} {lg : List Foot} {ty : TypeId} {pos : String} {af : Array Edge} {v : Value}
/-- One that reads numbers, and makes a block of numbers. -/
theorem L.callNew {d : Option Tmp} {f cn : Nat} {fn : Func} [FI P f fn] {args : List Value} {V V' : Value} {xs : List Operand} {ts : Array TypeId} (l : List (Nat × Nat)) (bs : List (Σ n : Nat, IntKind × List (BitVec n))) {j w : Nat} {k : IntKind} {r : List (BitVec w)} {opn : Bool}
    (hc : Fc P f cn args (roM 0 bs) (fun v' m' => v' = V ∧ m' = [(j, some (.cells (arr k r) opn true))])) (hl : l.length = cn) (hgb : Nat.ble l.length GB = true) (hx : xs.map (aeval fr) = args.map fun v => some (rn3 (sg l) v)) (hro : RoL l bs mem)
    (hj : Nat.ble cn j = true) (hjg : Nat.ble (j + 1) GB = true) (hlt : (l.all fun p => Nat.ble (p.1 + 1) nx) = true) (hV : rn3 (sgN l [(j, nx)]) V = V') (hN : N3 (fun n => sgN l [(j, nx)] n ≠ none) V) (hd : dstOk d N = true) (hn : Nat.ble (nx + 1) GB = true)
    (h : SpL P N lo ops dr rest ⟨nx + 1, putF fr d V', (nx, some (.cells (arr k r) opn true)) :: mem, ⟨keys (roM0 mem l), [nx]⟩ :: lg⟩ K) : SpL P N lo ops dr (⟨d, .call { callee := .value (.func f), args := xs.toArray, argTypes := ts }, ty, pos, af, none⟩ :: rest) ⟨nx, fr, mem, lg⟩ K := by
  have hh := Hand.ro (Nat.le_of_ble_eq_true hgb) hro
  have hnG := Nat.le_of_ble_eq_true hn
  have hlook : ∀ n, look [(j, nx)] n = if j = n then some nx else none := fun n => by rw [look_cons]; rfl
  have hro' : ∀ c b, mfind (roM0 mem l) c = some b → b.rw = false := by
    intro c b hb
    cases hrw : b.rw with
    | false => rfl
    | true =>
      obtain ⟨n, b', h1, h2, _⟩ := hh.rw c b hb hrw
      obtain ⟨_, _, _, _, _, _, rfl⟩ := roM_at h1
      cases h2
  refine L.call (m0 := roM0 mem l) (m0' := [(nx, some (.cells (arr k r) opn true))]) (V' := V') l [(j, nx)] [nx] (nx + 1) hc hl hx hh (fun p hp => ⟨hro.low p hp, ?_⟩) rfl (fun n c h => ?_) (by simp) (fun n h => ?_) (by omega) (fun n b hb => ?_) hV.symm hN ⟨fun c b0 hb => ?_, fun c b0 h1 h2 => ?_⟩ hd h
  · rw [List.all_eq_true] at hlt
    have := Nat.le_of_ble_eq_true (hlt p hp)
    simp; omega
  · rw [hlook] at h
    by_cases e : j = n
    · subst e; exact ⟨Nat.le_of_ble_eq_true hj, Nat.le_of_ble_eq_true hjg⟩
    · rw [if_neg e] at h; cases h
  · simp at h; subst h; omega
  · obtain ⟨B, hB, rfl⟩ := roM0_at hb
    exact ⟨B, hB, Wk.toRo B⟩
  · rw [mfind_cons] at hb
    by_cases e : nx = c
    · subst e
      rw [if_pos rfl] at hb
      injection hb with hb
      subst hb
      refine ⟨j, .cells (arr k r) opn true, ?_, ?_, rfl, UB.arr _ _ _ _ _, NA_arr _ _ _⟩
      · unfold sgN; rw [hlook, if_pos rfl]
      · rw [mfind_cons, if_pos rfl]
    · rw [if_neg e] at hb; cases hb
  · rw [hro' c b0 h1] at h2; cases h2
end
theorem N3_two {S : Nat → Prop} {a b : Value} (ha : N2 S a) (hb : N2 S b) : N3 S (.tuple #[a, b]) := by
  intro i v hv
  match i, hv with
  | 0, hv => simp at hv; subst hv; exact ha
  | 1, hv => simp at hv; subst hv; exact hb
/-! ### Slices of slices -/
section
variable {P : Program}
theorem ss_hi {T e : TypeId} (hu : P.underlying T = some (.slice e)) (hs : (P.info? e).map (·.size) = some 1) (a : Option Addr) (len cap : Nat) (k' : IntKind) (hi : Int) (h : Nat) (hh : hi = h) (h2 : h ≤ cap) (W : World) :
    (Instr.sliceAt T (.slice a len cap) none (some (.int k' hi)) none).run P W = .ok (.slice a h cap) W := by
  have e1 : (if cap = 0 then a else a.map fun x => x.add 0) = a := by
    split
    · rfl
    · cases a with
      | none => rfl
      | some a => obtain ⟨g, o, f⟩ := a; rfl
  simp only [Instr.sliceAt, Instr.slice, Sem.run_bind, run_underlying hu W, Result.andThen_ok, Sem.run_pure, Instr.sliceBounds, sliceBound_at k' hi h cap .sliceAcap hh h2 W, size_one hs W, Nat.mul_one, Nat.sub_zero, if_true, e1]
theorem ss_lo {T e : TypeId} (hu : P.underlying T = some (.slice e)) (hs : (P.info? e).map (·.size) = some 1) (g o len cap : Nat) (k : IntKind) (lo : Int) (l : Nat) (hl : lo = l) (h2 : l ≤ len) (W : World) :
    (Instr.sliceAt T (.slice (some ⟨g, o, none⟩) len cap) (some (.int k lo)) none none).run P W = .ok (.slice (some ⟨g, if cap = l then o else o + l, none⟩) (len - l) (cap - l)) W := by
  have e1 : (if cap = l then some (⟨g, o, none⟩ : Addr) else (some (⟨g, o, none⟩ : Addr)).map fun x => x.add (l * 1)) = some ⟨g, if cap = l then o else o + l, none⟩ := by
    split
    · rfl
    · rw [Nat.mul_one]; exact congrArg some (add_off g o l)
  simp only [Instr.sliceAt, Instr.slice, Sem.run_bind, run_underlying hu W, Result.andThen_ok, Sem.run_pure, Instr.sliceBounds, Option.isSome, sliceBound_at k lo l len .sliceB hl h2 W, size_one hs W, Bool.false_eq_true, if_false, e1]
end
section
variable {P : Program} {N lo : Nat} {nx : Nat} {fr : Fr} {mem : Mem} {K : St → Prop} {ops : Array Oper} {rest : List Oper} {dr : Bool} {lg : List Foot} {ty : TypeId} {pos : String} {af : Array Edge} {d : Tmp} {v : Value} {x y z : Operand}
variable {T e : TypeId} {len cp : Nat} {b : Bool} {n o l h : Nat} {k k' : IntKind}
theorem L.ssHi [TS P T e] [TI P e b 1] (hx : aeval fr x = some (.slice (some ⟨n, o, none⟩) len cp)) (hz : aeval fr z = some (.int k' (h : Int))) (hcp : cp < capU) (h2 : h ≤ cp) (hd : dstOk (some d) N = true)
    (hr : SpL P N lo ops dr rest ⟨nx, (d, .slice (some ⟨n, o, none⟩) h cp) :: fr, mem, ⟨[], []⟩ :: lg⟩ K) : SpL P N lo ops dr (⟨some d, .slice T x none (some z) none, ty, pos, af, none⟩ :: rest) ⟨nx, fr, mem, lg⟩ K := by
  refine SpL.pure (v := .slice (some ⟨n, o, none⟩) h cp) ?_ rfl (dstOut hd) hr
  intro E a w hev
  obtain ⟨lc, hlc, e1⟩ := hev x (by simp [Op.operands]) _ hx
  have e3 := R3_int (hev z (by simp [Op.operands]) _ hz)
  have hc : capOf (lc.top - o) cp = cp := by rw [capOf, if_neg (by omega)]
  rw [hc] at e1
  have := ss_hi (P := P) (TS.un (P := P) (t := T) (e := e)) (TI.sz (P := P) (t := e) (agg := b)) (some ⟨lc.blk, lc.base + o, none⟩) len cp k' (h : Int) h rfl h2 w
  exact ⟨.slice (some ⟨lc.blk, lc.base + o, none⟩) h cp, by unfold execOp; simp [e1, e3, this], cap_known hlc hcp rfl⟩
theorem L.ssLo [TS P T e] [TI P e b 1] (hx : aeval fr x = some (.slice (some ⟨n, o, none⟩) len cp)) (hy : aeval fr y = some (.int k (l : Int))) (hcp : cp < capU) (h2 : l ≤ len) (hd : dstOk (some d) N = true)
    (hr : SpL P N lo ops dr rest ⟨nx, (d, .slice (some ⟨n, if cp = l then o else o + l, none⟩) (len - l) (cp - l)) :: fr, mem, ⟨[], []⟩ :: lg⟩ K) : SpL P N lo ops dr (⟨some d, .slice T x (some y) none none, ty, pos, af, none⟩ :: rest) ⟨nx, fr, mem, lg⟩ K := by
  refine SpL.pure (v := .slice (some ⟨n, if cp = l then o else o + l, none⟩) (len - l) (cp - l)) ?_ rfl (dstOut hd) hr
  intro E a w hev
  obtain ⟨lc, hlc, e1⟩ := hev x (by simp [Op.operands]) _ hx
  have e3 := R3_int (hev y (by simp [Op.operands]) _ hy)
  have hc : capOf (lc.top - o) cp = cp := by rw [capOf, if_neg (by omega)]
  rw [hc] at e1
  have := ss_lo (P := P) (TS.un (P := P) (t := T) (e := e)) (TI.sz (P := P) (t := e) (agg := b)) lc.blk (lc.base + o) len cp k (l : Int) l rfl h2 w
  refine ⟨.slice (some ⟨lc.blk, if cp = l then lc.base + o else lc.base + o + l, none⟩) (len - l) (cp - l), by unfold execOp; simp [e1, e3, this], cap_known hlc (by omega) ?_⟩
  split <;> simp [Nat.add_assoc]
/-- Of one whose capacity isn't known: as far as cells are told. -/
theorem L.ssHiU [TS P T e] [TI P e b 1] {C : Array Value} {opn rw : Bool} (hx : aeval fr x = some (.slice (some ⟨n, o, none⟩) len (capU + 1))) (hm : mfind mem n = some (.cells C opn rw)) (hz : aeval fr z = some (.int k' (h : Int))) (h2 : o + h ≤ C.size) (hd : dstOk (some d) N = true)
    (hr : SpL P N lo ops dr rest ⟨nx, (d, .slice (some ⟨n, o, none⟩) h (capU + 1)) :: fr, mem, ⟨[n], []⟩ :: lg⟩ K) : SpL P N lo ops dr (⟨some d, .slice T x none (some z) none, ty, pos, af, none⟩ :: rest) ⟨nx, fr, mem, lg⟩ K := by
  refine SpL.read (v := .slice (some ⟨n, o, none⟩) h (capU + 1)) (fun rw => ?_) hm rfl (dstOut hd) hr
  intro E a w lc hev hl hB _
  obtain ⟨lc', hlc, e1⟩ := hev x (by simp [Op.operands]) _ hx
  rw [hl] at hlc; injection hlc with hlc; subst hlc
  obtain ⟨D, t, fz, ho, h1', h2', h3, h4, h5⟩ := hB
  have e3 := R3_int (hev z (by simp [Op.operands]) _ hz)
  have hc : capOf (lc.top - o) (capU + 1) = lc.top - o := by rw [capOf, if_pos (by omega), Nat.add_sub_cancel_left, Nat.div_one]
  rw [hc] at e1
  have := ss_hi (P := P) (TS.un (P := P) (t := T) (e := e)) (TI.sz (P := P) (t := e) (agg := b)) (some ⟨lc.blk, lc.base + o, none⟩) len (lc.top - o) k' (h : Int) h rfl (by omega) w
  exact ⟨.slice (some ⟨lc.blk, lc.base + o, none⟩) h (lc.top - o), by unfold execOp; simp [e1, e3, this], lc, hl, by rw [hc]⟩
/-- Of none. -/
theorem L.ssNil [TS P T e] [TI P e b 1] (hx : aeval fr x = some (.slice none len cp)) (hz : aeval fr z = some (.int k' (h : Int))) (h2 : h ≤ cp) (hd : dstOk (some d) N = true)
    (hr : SpL P N lo ops dr rest ⟨nx, (d, .slice none h cp) :: fr, mem, ⟨[], []⟩ :: lg⟩ K) : SpL P N lo ops dr (⟨some d, .slice T x none (some z) none, ty, pos, af, none⟩ :: rest) ⟨nx, fr, mem, lg⟩ K := by
  refine SpL.pure (v := .slice none h cp) ?_ rfl (dstOut hd) hr
  intro E a w hev
  have e1 : a.eval x = .slice none len cp := hev x (by simp [Op.operands]) _ hx
  have e3 := R3_int (hev z (by simp [Op.operands]) _ hz)
  have := ss_hi (P := P) (TS.un (P := P) (t := T) (e := e)) (TI.sz (P := P) (t := e) (agg := b)) none len cp k' (h : Int) h rfl h2 w
  exact ⟨.slice none h cp, by unfold execOp; simp [e1, e3, this], rfl⟩
end
end Go.Proofs.YtbfakdpnefhgkaaDoor.Sl
