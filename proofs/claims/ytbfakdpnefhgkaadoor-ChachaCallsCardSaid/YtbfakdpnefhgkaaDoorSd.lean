/-
  The laws of single operations in the logic of named memory: those that compute, those that read. Plain lemmas, over any program.
-/
import Derived.Test.YtbfakdpnefhgkaaDoorSc
set_option linter.unusedSimpArgs false
set_option linter.unusedVariables false
namespace Go.Proofs.YtbfakdpnefhgkaaDoor.Sl
open Go Go.RowKit Bv Mem
theorem R3_of_R1 {E : Env} {v u : Value} (h : R1 E v u) : R3 E v u := by
  cases v with
  | agg cs => exact h.elim
  | tuple cs => exact h.elim
  | _ => exact h
/-- A value in one cell. -/
def one1 : Value → Bool
  | .agg _ | .tuple _ => false
  | _ => true
theorem R1_of_R3 {E : Env} {v u : Value} (h1 : one1 v = true) (h : R3 E v u) : R1 E v u := by
  cases v with
  | agg cs => cases h1
  | tuple cs => cases h1
  | _ => exact h
theorem R1_one {E : Env} {v u : Value} (h : R1 E v u) : u.oneCell' = true := by
  cases v with
  | pointer a => cases a with
    | none => rw [show u = _ from h]; rfl
    | some a =>
      obtain ⟨b, o, sp⟩ := a
      cases sp with
      | none => obtain ⟨l, _, rfl⟩ := h; rfl
      | some _ => exact h.elim
  | slice a k c => cases a with
    | none => rw [show u = _ from h]; rfl
    | some a =>
      obtain ⟨b, o, sp⟩ := a
      cases sp with
      | none => obtain ⟨l, _, rfl⟩ := h; rfl
      | some _ => exact h.elim
  | map r => cases r with
    | none => rw [show u = _ from h]; rfl
    | some r => obtain ⟨l, _, rfl⟩ := h; rfl
  | chan r => cases r with
    | none => rw [show u = _ from h]; rfl
    | some r => exact h.elim
  | func fn a b => cases fn with
    | func f => obtain ⟨a', b', rfl, _⟩ := h; rfl
    | _ => exact h.elim
  | agg cs => exact h.elim
  | tuple cs => exact h.elim
  | iface t v => exact h.elim
  | _ => rw [show u = _ from h]; rfl
def Ev (o : Op) (fr : Fr) (E : Env) (a : Act) : Prop := ∀ x, x ∈ o.operands → ∀ v, aeval fr x = some v → R3 E v (a.eval x)
/-- An operation that touches no memory. -/
def PureOp (P : Program) (o : Oper) (fr : Fr) (v : Value) : Prop :=
  ∀ E a w, Ev o.op fr E a → ∃ u, (execOp a.eval o).run P w = .ok (.value u) w ∧ R3 E v u
/-- One that reads a block. -/
def ReadOp (P : Program) (o : Oper) (fr : Fr) (n : Nat) (b : ABlk) (v : Value) : Prop :=
  ∀ E a w l, Ev o.op fr E a → E n = some l → BRep E l w.heap[l.blk]? b → (GB ≤ n → l.blk = n - GB ∧ l.base = 0) → ∃ u, (execOp a.eval o).run P w = .ok (.value u) w ∧ R3 E v u
theorem PureOp.local {P : Program} {o : Oper} {fr : Fr} {v : Value} (h : PureOp P o fr v) : LocalOp P o fr [] [] (fun v' m' => v' = v ∧ m' = []) := by
  intro E a w hev hrep _ next Q hnext
  obtain ⟨u, hu, hr⟩ := h E a w hev
  unfold Oper.wp
  rw [hu]
  exact hnext E v u [] w ⟨rfl, rfl⟩ (Env.le.refl E) (fun _ _ => rfl) hr hrep.toRep0 (Kept.refl _ _ _)
theorem ReadOp.local {P : Program} {o : Oper} {fr : Fr} {n : Nat} {b : ABlk} {v : Value} (h : ReadOp P o fr n b v) (hb : b.rw = false) : LocalOp P o fr [(n, some b)] [] (fun v' m' => v' = v ∧ m' = []) := by
  intro E a w hev hrep _ next Q hnext
  obtain ⟨l, hl, hB⟩ := hrep.at_ n b (by simp [mfind])
  obtain ⟨u, hu, hr⟩ := h E a w l hev hl hB (fun hg => hrep.glob n l hg hl)
  unfold Oper.wp
  rw [hu]
  refine hnext E v u [] w ⟨rfl, rfl⟩ (Env.le.refl E) (fun _ _ => rfl) hr (hrep.toRep0.less fun n b h => by cases h) ⟨rfl, rfl, rfl, Nat.le_refl _, fun x hx ho => ⟨rfl, ?_⟩⟩
  rintro ⟨n, b, l, h, _⟩; cases h
def ABlk.toRo : ABlk → ABlk
  | .cells C opn _ => .cells C opn false
  | b => b
section
variable {P : Program} {N lo : Nat} {s : St} {K : St → Prop} {ops : Array Oper} {rest : List Oper} {dr : Bool}
theorem SpL.pure {o : Oper} {v : Value} (hp : PureOp P o s.fr v) (hg : o.guard = none) (hd : ∀ d, o.dst = some d → Nat.ble (d + 1) N = true) (h : SpL P N lo ops dr rest ⟨s.nx, putF s.fr o.dst v, s.m, ⟨[], []⟩ :: s.log⟩ K) : SpL P N lo ops dr (o :: rest) s K := by
  refine SpL.op (v := v) (m0 := []) (m' := []) (new := []) s.nx (OpOk.of_local hp.local ?_ hg) (fun n b h => by cases h) (fun n h => by cases h) (Nat.le_refl _) (fun d h => Nat.le_of_ble_eq_true (hd d h)) h
  rintro v' m' ⟨rfl, rfl⟩; exact ⟨(fun n b h => by cases h), (fun n b h => by cases h)⟩
theorem SpL.read {o : Oper} {n : Nat} {C : Array Value} {opn rw : Bool} {v : Value} (hp : ∀ rw, ReadOp P o s.fr n (.cells C opn rw) v) (hm : mfind s.m n = some (.cells C opn rw)) (hg : o.guard = none) (hd : ∀ d, o.dst = some d → Nat.ble (d + 1) N = true)
    (h : SpL P N lo ops dr rest ⟨s.nx, putF s.fr o.dst v, s.m, ⟨[n], []⟩ :: s.log⟩ K) : SpL P N lo ops dr (o :: rest) s K := by
  refine SpL.op (v := v) (m0 := [(n, some (.cells C opn false))]) (m' := []) (new := []) s.nx (OpOk.of_local ((hp false).local rfl) ?_ hg) (fun k b h => ?_) (fun n h => by cases h) (Nat.le_refl _) (fun d h => Nat.le_of_ble_eq_true (hd d h)) h
  · rintro v' m' ⟨rfl, rfl⟩
    refine ⟨fun k b h hrw => ?_, fun n b h => by cases h⟩
    rw [mfind_cons] at h
    by_cases hk : n = k
    · rw [if_pos hk] at h; injection h with h; subst h; cases hrw
    · rw [if_neg hk] at h; cases h
  · rw [mfind_cons] at h
    by_cases hk : n = k
    · rw [if_pos hk] at h; injection h with h; subst h; subst hk; exact ⟨_, hm, .inr rfl⟩
    · rw [if_neg hk] at h; cases h
end
/-! ### Values that are what they are -/
theorem R3_int {E : Env} {k : IntKind} {n : Int} {u : Value} (h : R3 E (.int k n) u) : u = .int k n := h
theorem R3_bool {E : Env} {b : Bool} {u : Value} (h : R3 E (.bool b) u) : u = .bool b := h
theorem R3_str {E : Env} {b : ByteArray} {u : Value} (h : R3 E (.string b) u) : u = .string b := h
theorem AR_arr {E : Env} {k : IntKind} {n : Nat} {l : List (BitVec n)} {ds : Array Value} (h : AR (R1 E) (arr k l) ds) : ds = arr k l := by
  apply Array.ext_getElem?
  intro i
  rcases Nat.lt_or_ge i l.length with hi | hi
  · obtain ⟨u, hu, hr⟩ := h.2 i _ (arr_get k l i hi)
    rw [hu, arr_get k l i hi]
    exact congrArg some hr
  · rw [Array.getElem?_eq_none (by rw [← h.1, arr_size]; exact hi), Array.getElem?_eq_none (by rw [arr_size]; exact hi)]
theorem arr_AR (E : Env) (k : IntKind) {n : Nat} (l : List (BitVec n)) : AR (R1 E) (arr k l) (arr k l) := by
  refine ⟨rfl, fun i v hv => ⟨v, hv, ?_⟩⟩
  have hi : i < l.length := by have := (Array.getElem?_eq_some_iff.1 hv).1; rwa [arr_size] at this
  rw [arr_get k l i hi] at hv
  injection hv with hv
  subst hv
  rfl
theorem R3_arr {E : Env} {k : IntKind} {n : Nat} {l : List (BitVec n)} {u : Value} (h : R3 E (.agg (arr k l)) u) : u = .agg (arr k l) := by
  obtain ⟨ds, rfl, h⟩ := h
  rw [AR_arr h]
theorem arr_R3 (E : Env) (k : IntKind) {n : Nat} (l : List (BitVec n)) : R3 E (.agg (arr k l)) (.agg (arr k l)) := ⟨_, rfl, arr_AR E k l⟩
theorem NA_arr (S : Nat → Prop) (k : IntKind) {n : Nat} (l : List (BitVec n)) : NA (N1 S) (arr k l) := by
  intro i v hv
  have hi : i < l.length := by have := (Array.getElem?_eq_some_iff.1 hv).1; rwa [arr_size] at this
  rw [arr_get k l i hi] at hv
  injection hv with hv
  subst hv
  trivial
theorem N3_arr (S : Nat → Prop) (k : IntKind) {n : Nat} (l : List (BitVec n)) : N3 S (.agg (arr k l)) := NA_arr S k l
theorem rn1_arr (f : Nm) (k : IntKind) {n : Nat} (l : List (BitVec n)) : (arr k l).map (rn1 f) = arr k l := by
  apply Array.ext_getElem?
  intro i
  rw [Array.getElem?_map]
  rcases Nat.lt_or_ge i l.length with hi | hi
  · rw [arr_get k l i hi]; rfl
  · rw [Array.getElem?_eq_none (by rw [arr_size]; exact hi)]; rfl
theorem rn_arr (f : Nm) (k : IntKind) {n : Nat} (l : List (BitVec n)) : rn3 f (.agg (arr k l)) = .agg (arr k l) := congrArg Value.agg (rn1_arr f k l)
/-- Cells without names. -/
def plain0 : Value → Bool
  | .int _ _ | .bool _ | .string _ | .pointer none | .slice none _ _ | .map none | .nilFunc | .nilIface => true
  | _ => false
theorem R1_plain (E : Env) : ∀ {v : Value}, plain0 v = true → R1 E v v := by
  intro v h
  unfold plain0 at h
  split at h <;> first | rfl | cases h
theorem AR_plain {C : Array Value} (h : C.all plain0 = true) (E : Env) : AR (R1 E) C C :=
  ⟨rfl, fun i v hv => ⟨v, hv, R1_plain E (Array.all_eq_true_iff_forall_mem.1 h v (Array.mem_of_getElem? hv))⟩⟩
/-! ### Computing -/
section
variable {P : Program} {fr : Fr}
theorem PureOp.move {d : Option Tmp} {x : Operand} {v : Value} {ty : TypeId} {pos : String} {af : Array Edge} {g} (hx : aeval fr x = some v) : PureOp P ⟨d, .move x, ty, pos, af, g⟩ fr v :=
  fun E a w hev => ⟨a.eval x, rfl, hev x (by simp [Op.operands]) v hx⟩
theorem PureOp.assign {d : Option Tmp} {x : Operand} {v : Value} {ty : TypeId} {pos : String} {af : Array Edge} {g} (hx : aeval fr x = some v) : PureOp P ⟨d, .assign x, ty, pos, af, g⟩ fr v :=
  fun E a w hev => ⟨a.eval x, rfl, hev x (by simp [Op.operands]) v hx⟩
theorem eqGuard_int (op : BinOp) (T : TypeId) (x y : Operand) (k k' : IntKind) (m n : Int) (w : World) : (eqGuard op T x y (.int k m) (.int k' n)).run P w = .ok () w := by
  unfold eqGuard
  split <;> rfl
theorem eqGuard_bool (op : BinOp) (T : TypeId) (x y : Operand) (m n : Bool) (w : World) : (eqGuard op T x y (.bool m) (.bool n)).run P w = .ok () w := by
  unfold eqGuard
  split <;> rfl
theorem eqGuard_str (op : BinOp) (T : TypeId) (x y : Operand) (m n : ByteArray) (w : World) : (eqGuard op T x y (.string m) (.string n)).run P w = .ok () w := by
  unfold eqGuard
  split <;> rfl
theorem PureOp.bin {d : Option Tmp} {op : BinOp} {T T' : TypeId} {x y : Operand} {k k' : IntKind} {m n : Int} {v : Value} {ty : TypeId} {pos : String} {af : Array Edge} {g} (hx : aeval fr x = some (.int k m)) (hy : aeval fr y = some (.int k' n))
    (h : binOp op T (.int k m) (.int k' n) = Pure.pure v) (hv : ∀ E, R3 E v v) : PureOp P ⟨d, .binOp op T x y T', ty, pos, af, g⟩ fr v := by
  intro E a w hev
  have e1 := R3_int (hev x (by simp [Op.operands]) _ hx)
  have e2 := R3_int (hev y (by simp [Op.operands]) _ hy)
  refine ⟨v, ?_, hv E⟩
  unfold execOp
  simp only [e1, e2, Sem.run_bind, eqGuard_int, Result.andThen_ok, h, Sem.run_pure]
theorem PureOp.un {d : Option Tmp} {op : UnOp} {T : TypeId} {x : Operand} {v0 v : Value} {ty : TypeId} {pos : String} {af : Array Edge} {g} (hx : aeval fr x = some v0) (hv0 : ∀ E u, R3 E v0 u → u = v0) (h : Op.unary op v0 = Pure.pure v) (hv : ∀ E, R3 E v v) : PureOp P ⟨d, .unOp op T x, ty, pos, af, g⟩ fr v := by
  intro E a w hev
  have e1 := hv0 E _ (hev x (by simp [Op.operands]) _ hx)
  refine ⟨v, ?_, hv E⟩
  unfold execOp
  simp only [e1, Sem.run_bind, h, Result.andThen_ok, Sem.run_pure]
theorem PureOp.conv {d : Option Tmp} {A B : TypeId} {x : Operand} {k k' : IntKind} {n : Int} {v : Value} {ty : TypeId} {pos : String} {af : Array Edge} {g} (hx : aeval fr x = some (.int k n)) (hA : P.underlying A = some (.int k)) (hB : P.underlying B = some (.int k'))
    (h : Conv.intToInt k' n = Pure.pure v) (hv : ∀ E, R3 E v v) : PureOp P ⟨d, .convert A B x, ty, pos, af, g⟩ fr v := by
  intro E a w hev
  have e1 := R3_int (hev x (by simp [Op.operands]) _ hx)
  refine ⟨v, ?_, hv E⟩
  unfold execOp
  simp [e1, convert, run_underlying hA, run_underlying hB, h]
theorem PureOp.extract {d : Option Tmp} {x : Operand} {i : Nat} {vs : Array Value} {v : Value} {ty : TypeId} {pos : String} {af : Array Edge} {g} (hx : aeval fr x = some (.tuple vs)) (hv : vs[i]? = some v) (h2 : ∀ cs, v ≠ .tuple cs) : PureOp P ⟨d, .extract x i, ty, pos, af, g⟩ fr v := by
  intro E a w hev
  obtain ⟨ds, e, h⟩ := hev x (by simp [Op.operands]) _ hx
  obtain ⟨u, hu, hr⟩ := h.2 i v hv
  refine ⟨u, ?_, ?_⟩
  · unfold execOp
    simp [e, Instr.extract, hu]
  · unfold R3
    split
    · exact absurd rfl (h2 _)
    · exact hr
theorem add_addr (b o k : Nat) : (⟨b, o, none⟩ : Addr).add k = ⟨b, o + k, none⟩ := by
  unfold Addr.add
  by_cases h : k = 0
  · subst h; simp
  · simp [h]
/-- The address of an array's element. -/
theorem PureOp.indexAddrA {d : Option Tmp} {T e : TypeId} {len sz : Nat} {x y : Operand} {n o j : Nat} {k : IntKind} {i : Int} {ty : TypeId} {pos : String} {af : Array Edge} {g} (hx : aeval fr x = some (.pointer (some ⟨n, o, none⟩))) (hy : aeval fr y = some (.int k i))
    (hT : P.underlying T = some (.array len e)) (he : (P.info? e).map (·.size) = some sz) (hi : i = (j : Int)) (hj : j < len) : PureOp P ⟨d, .indexAddr T x y, ty, pos, af, g⟩ fr (.pointer (some ⟨n, o + j * sz, none⟩)) := by
  intro E a w hev
  obtain ⟨l, hl, e1⟩ := hev x (by simp [Op.operands]) _ hx
  have e2 := R3_int (hev y (by simp [Op.operands]) _ hy)
  refine ⟨_, ?_, l, hl, rfl⟩
  subst hi
  cases hq : P.info? e with
  | none => simp [hq] at he
  | some inf =>
    have hsz : inf.size = sz := by simpa [hq] using he
    unfold execOp
    simp only [e1, e2, Instr.indexAt, asIntOf, Sem.run_bind, Sem.run_pure, Result.andThen_ok, run_underlying hT, Instr.sureAddr]
    rw [if_pos ⟨by omega, by omega⟩]
    simp [sizeOf, typeInfo, hq, hsz, add_addr, Nat.add_assoc]
/-- The address of a slice's element. -/
theorem PureOp.indexAddrS {d : Option Tmp} {T e : TypeId} {len cp sz : Nat} {x y : Operand} {n o j : Nat} {k : IntKind} {i : Int} {ty : TypeId} {pos : String} {af : Array Edge} {g} (hx : aeval fr x = some (.slice (some ⟨n, o, none⟩) len cp)) (hy : aeval fr y = some (.int k i))
    (hT : P.underlying T = some (.slice e)) (he : (P.info? e).map (·.size) = some sz) (hi : i = (j : Int)) (hj : j < len) : PureOp P ⟨d, .indexAddr T x y, ty, pos, af, g⟩ fr (.pointer (some ⟨n, o + j * sz, none⟩)) := by
  intro E a w hev
  obtain ⟨l, hl, e1⟩ := hev x (by simp [Op.operands]) _ hx
  have e2 := R3_int (hev y (by simp [Op.operands]) _ hy)
  refine ⟨_, ?_, l, hl, rfl⟩
  subst hi
  cases hq : P.info? e with
  | none => simp [hq] at he
  | some inf =>
    have hsz : inf.size = sz := by simpa [hq] using he
    unfold execOp
    simp only [e1, e2, Instr.indexAt, asIntOf, Sem.run_bind, Sem.run_pure, Result.andThen_ok, run_underlying hT]
    rw [if_pos ⟨by omega, by omega⟩]
    simp [sizeOf, typeInfo, hq, hsz, add_addr, Nat.add_assoc]
theorem ext_at {C : Array Value} {o sz i : Nat} (hi : i < sz) (hle : o + sz ≤ C.size) : (C.extract o (o + sz))[i]? = C[o + i]? := by
  rw [Array.getElem?_extract_of_lt (by omega), Array.getElem?_eq_getElem]
def aggT (P : Program) (t : TypeId) : Option Bool := (P.underlying t).map fun | .struct _ | .array _ _ => true | _ => false
theorem run_isAgg {t : TypeId} {b : Bool} (h : aggT P t = some b) (w : World) : (isAgg t).run P w = .ok b w := by
  unfold aggT at h
  cases hu : P.underlying t with
  | none => rw [hu] at h; cases h
  | some d =>
    rw [hu] at h
    simp only [Option.map_some, Option.some.injEq] at h
    simp only [isAgg, Sem.run_bind, run_underlying hu, Result.andThen_ok]
    subst h
    cases d <;> rfl
/-- A value is read out of its cell. -/
theorem ReadOp.load {d : Option Tmp} {t : TypeId} {x : Operand} {n o : Nat} {C : Array Value} {opn rw : Bool} {v : Value} {ty : TypeId} {pos : String} {af : Array Edge} {g} (hx : aeval fr x = some (.pointer (some ⟨n, o, none⟩))) (hv : C[o]? = some v) (ht : aggT P t = some false) :
    ReadOp P ⟨d, .load t x, ty, pos, af, g⟩ fr n (.cells C opn rw) v := by
  intro E a w l hev hl hB _
  obtain ⟨l', hl', e1⟩ := hev x (by simp [Op.operands]) _ hx
  rw [hl] at hl'; injection hl' with hl'; subst hl'
  obtain ⟨D, t', fz, ho, h1, h2, h3, h4, h5⟩ := hB
  obtain ⟨u, hu, hr⟩ := h5 o v hv
  refine ⟨u, ?_, R3_of_R1 hr⟩
  have hc : w.cell? ⟨l.blk, l.base + o, none⟩ = some u := by simp [World.cell?, ho, hu]
  unfold execOp
  simp [e1, Instr.loadAt, Instr.sureAddr, loadVar, run_isAgg ht, hc]
/-- An array or a struct is read out of its cells. -/
theorem ReadOp.loadA {d : Option Tmp} {t : TypeId} {x : Operand} {n o sz : Nat} {C : Array Value} {opn rw : Bool} {ty : TypeId} {pos : String} {af : Array Edge} {g} (hx : aeval fr x = some (.pointer (some ⟨n, o, none⟩))) (ht : aggT P t = some true) (hs : (P.info? t).map (·.size) = some sz) (hle : o + sz ≤ C.size) :
    ReadOp P ⟨d, .load t x, ty, pos, af, g⟩ fr n (.cells C opn rw) (.agg (C.extract o (o + sz))) := by
  intro E a w l hev hl hB _
  obtain ⟨l', hl', e1⟩ := hev x (by simp [Op.operands]) _ hx
  rw [hl] at hl'; injection hl' with hl'; subst hl'
  obtain ⟨D, t', fz, ho, h1, h2, h3, h4, h5⟩ := hB
  cases hq : P.info? t with
  | none => simp [hq] at hs
  | some inf =>
    have hsz : inf.size = sz := by simpa [hq] using hs
    have hlc : (loadCells ⟨l.blk, l.base + o, none⟩ sz).run P w = .ok (D.extract (l.base + o) (l.base + o + sz)) w := by
      rw [run_loadCells (P := P) (w := w) ⟨l.blk, l.base + o, none⟩ sz (fun j => D.getD (l.base + o + j) undef)]
      · congr 1
        apply Array.ext_getElem?
        intro i
        rcases Nat.lt_or_ge i sz with hi | hi
        · have hi1 : i < (D.extract (l.base + o) (l.base + o + sz)).size := by simp; omega
          rw [Array.getElem?_eq_getElem hi1]
          simp [hi, show l.base + o + i < D.size by omega]
        · rw [Array.getElem?_eq_none (by simp; omega), Array.getElem?_eq_none (by simp; omega)]
      · intro j hj
        rw [add_addr]
        simp [World.cell?, ho, show l.base + o + j < D.size by omega]
    refine ⟨.agg (D.extract (l.base + o) (l.base + o + sz)), ?_, _, rfl, ?_⟩
    · unfold execOp
      simp [e1, Instr.loadAt, Instr.sureAddr, loadVar, run_isAgg ht, sizeOf, typeInfo, hq, hsz, hlc]
    · refine ⟨by simp; omega, fun i v hv => ?_⟩
      have hi : i < sz := by have := (Array.getElem?_eq_some_iff.1 hv).1; simp at this; omega
      rw [ext_at hi hle] at hv
      obtain ⟨u, hu, hr⟩ := h5 (o + i) v hv
      refine ⟨u, ?_, hr⟩
      rw [ext_at hi (by omega), ← hu, Nat.add_assoc]
end
end Go.Proofs.YtbfakdpnefhgkaaDoor.Sl
