/-
  More operations in the logic of named memory: building of arrays and structs, fields, lengths, strings out of bytes. Plain lemmas, over any program.
-/
import Derived.Test.YtbfakdpnefhgkaaDoorSj
import Derived.Test.YtbfakdpnefhgkaaDoorMem2
set_option linter.unusedSimpArgs false
set_option linter.unusedVariables false
namespace Go.Proofs.YtbfakdpnefhgkaaDoor.Sl
open Go Go.RowKit Bv Mem
theorem AR_set {E : Env} {C D : Array Value} {i : Nat} {v u : Value} (h : AR (R1 E) C D) (hr : R1 E v u) : AR (R1 E) (C.setIfInBounds i v) (D.setIfInBounds i u) := by
  refine ⟨by simpa using h.1, fun j x hx => ?_⟩
  rw [Array.getElem?_setIfInBounds] at hx ⊢
  by_cases hij : i = j
  · subst hij
    rw [if_pos rfl] at hx ⊢
    by_cases hlt : i < C.size
    · rw [if_pos hlt] at hx; injection hx with hx; subst hx
      exact ⟨u, by rw [if_pos (by rw [← h.1]; exact hlt)], hr⟩
    · rw [if_neg hlt] at hx; cases hx
  · rw [if_neg hij] at hx ⊢
    exact h.2 j x hx
theorem foldl_AR {E : Env} {off : Nat} : ∀ (ps us : List (Value × Nat)) (C D : Array Value), AR (R1 E) C D → ps.length = us.length → (∀ (i : Nat) p u, ps[i]? = some p → us[i]? = some u → p.2 = u.2 ∧ R1 E p.1 u.1) →
    AR (R1 E) (ps.foldl (fun cs p => cs.setIfInBounds (off + p.2) p.1) C) (us.foldl (fun cs p => cs.setIfInBounds (off + p.2) p.1) D)
  | [], [], C, D, h, _, _ => h
  | p :: ps, u :: us, C, D, h, hl, hr => by
    simp only [List.foldl_cons]
    obtain ⟨h1, h2⟩ := hr 0 p u rfl rfl
    refine foldl_AR ps us _ _ (by rw [← h1]; exact AR_set h h2) (by simpa using hl) (fun i p' u' hp hu => hr (i + 1) p' u' (by simpa using hp) (by simpa using hu))
  | [], _ :: _, _, _, _, hl, _ => by simp at hl
  | _ :: _, [], _, _, _, hl, _ => by simp at hl
theorem cells_AR {E : Env} {v u : Value} (h2 : noTuple v = true) (h : R3 E v u) : AR (R1 E) v.cells u.cells := by
  have one : ∀ v u : Value, (∀ cs, v ≠ .agg cs) → R1 E v u → AR (R1 E) v.cells u.cells := by
    intro v u hv hr
    have hc : v.cells = #[v] := by cases v <;> first | rfl | exact absurd rfl (hv _)
    have hu : u.cells = #[u] := by have := R1_one hr; cases u <;> first | rfl | simp [Value.oneCell'] at this
    rw [hc, hu]
    refine ⟨rfl, fun i x hx => ?_⟩
    cases i with
    | zero => simp at hx; subst hx; exact ⟨u, by simp, hr⟩
    | succ i => simp at hx
  have h' := noTuple.out h2 E u h
  cases v with
  | agg cs => obtain ⟨ds, rfl, ha⟩ := h'; exact ha
  | tuple cs => cases h2
  | _ => exact one _ _ (fun cs e => by cases e) h'
theorem fill_AR {E : Env} {place : Nat → Option (Nat × Nat)} : ∀ (pv pu : List (Nat × Value)) (C D C' : Array Value), AR (R1 E) C D → pv.length = pu.length → (∀ (i : Nat) p u, pv[i]? = some p → pu[i]? = some u → p.1 = u.1 ∧ AR (R1 E) p.2.cells u.2.cells) →
    Instr.fill place C pv = some C' → ∃ D', Instr.fill place D pu = some D' ∧ AR (R1 E) C' D'
  | [], [], C, D, C', h, _, _, hf => by
    simp only [Instr.fill, Option.some.injEq] at hf
    subst hf
    exact ⟨D, rfl, h⟩
  | (i, v) :: pv, (j, u) :: pu, C, D, C', h, hl, hr, hf => by
    obtain ⟨h1, h2⟩ := hr 0 (i, v) (j, u) rfl rfl
    dsimp only at h1 h2
    subst h1
    simp only [Instr.fill] at hf ⊢
    cases hp : place i with
    | none => rw [hp] at hf; cases hf
    | some os =>
      obtain ⟨off, size⟩ := os
      rw [hp] at hf
      dsimp only at hf ⊢
      rw [← h2.1, ← h.1]
      split at hf
      · cases hf
      · rename_i hc
        rw [if_neg hc]
        refine fill_AR pv pu _ _ C' ?_ (by simpa using hl) (fun k p u hp hu => hr (k + 1) p u (by simpa using hp) (by simpa using hu)) hf
        rw [← Array.foldl_toList, ← Array.foldl_toList]
        refine foldl_AR (off := off) _ _ _ _ h (by simp [h2.1]) (fun k p q hp hq => ?_)
        simp only [Array.toList_zipIdx, List.getElem?_zipIdx, Option.map_eq_some_iff] at hp hq
        obtain ⟨x, hx, rfl⟩ := hp
        obtain ⟨y, hy, rfl⟩ := hq
        obtain ⟨z, hz, hrz⟩ := h2.2 k x (by simpa using hx)
        have : y = z := by have : u.cells[k]? = some y := by simpa using hy
                           rw [this] at hz; injection hz
        subst this
        exact ⟨rfl, hrz⟩
  | [], _ :: _, _, _, _, _, hl, _, _ => by simp at hl
  | _ :: _, [], _, _, _, _, hl, _, _ => by simp at hl
/-- Where the parts of a type lie. -/
class BP (P : Program) (t : TypeId) (place : outParam (Nat → Option (Nat × Nat))) : Prop where
  run : ∀ (z : Value) (parts : Array (Nat × Value)) (cs : Array Value) (w : World), (zeroValue t).run P w = .ok z w → Instr.fill place z.cells parts.toList = some cs → (Instr.build t parts).run P w = .ok (.agg cs) w
def apl (sz : Nat) : Nat → Option (Nat × Nat) := fun i => some (i * sz, sz)
instance {P : Program} {t len e sz : Nat} {b : Bool} [TA P t len e] [TI P e b sz] : BP P t (apl sz) := ⟨fun z parts cs w hz hf => by
  have hs : (sizeOf e).run P w = .ok sz w := by
    have h := TI.sz (P := P) (t := e) (agg := b) (sz := sz)
    cases hq : P.info? e with
    | none => simp [hq] at h
    | some inf => have : inf.size = sz := by simpa [hq] using h
                  simp [sizeOf, typeInfo, hq, this]
  unfold apl at hf
  simp only [Instr.build, Sem.run_bind, hz, Result.andThen_ok, run_underlying (TA.un (P := P) (t := t) (len := len) (e := e)), hs, hf, Sem.run_pure]⟩
/-- The fields of a struct: where they lie, how many cells they have. -/
class TF (P : Program) (t : TypeId) (pl : outParam (Array (Nat × Nat))) : Prop where
  un : ∃ fs, P.underlying t = some (.struct fs) ∧ ∀ w, (fs.mapM fun f => (do pure (f.offset, ← sizeOf f.type) : Sem (Nat × Nat))).run P w = .ok pl w
instance {P : Program} {t : Nat} {pl : Array (Nat × Nat)} [TF P t pl] : BP P t (pl[·]?) := ⟨fun z parts cs w hz hf => by
  obtain ⟨fs, h1, h2⟩ := TF.un (P := P) (t := t) (pl := pl)
  simp only [Instr.build, Sem.run_bind, hz, Result.andThen_ok, run_underlying h1, h2, hf, Sem.run_pure]⟩
section
variable {P : Program} {fr : Fr}
def aparts (fr : Fr) : List (Nat × Operand) → Option (List (Nat × Value))
  | [] => some []
  | (i, x) :: ps => match aeval fr x, aparts fr ps with
    | some v, some vs => bif noTuple v then some ((i, v) :: vs) else none
    | _, _ => none
theorem aparts_spec {E : Env} {a : Act} : ∀ {ps : List (Nat × Operand)} {pv : List (Nat × Value)}, (∀ p, p ∈ ps → ∀ v, aeval fr p.2 = some v → R3 E v (a.eval p.2)) → aparts fr ps = some pv →
    pv.length = ps.length ∧ ∀ (i : Nat) p u, pv[i]? = some p → (ps.map fun p => (p.1, a.eval p.2))[i]? = some u → p.1 = u.1 ∧ AR (R1 E) p.2.cells u.2.cells
  | [], pv, _, h => by
    injection h with h; subst h
    exact ⟨rfl, fun i p u hp => by simp at hp⟩
  | (i, x) :: ps, pv, hev, h => by
    simp only [aparts] at h
    split at h
    · rename_i v vs hv hvs
      cases hn : noTuple v with
      | false => rw [hn] at h; cases h
      | true =>
        rw [hn] at h
        injection h with h; subst h
        obtain ⟨h1, h2⟩ := aparts_spec (fun p hp => hev p (by simp [hp])) hvs
        refine ⟨by simp [h1], fun k p u hp hu => ?_⟩
        cases k with
        | zero =>
          simp at hp hu; subst hp; subst hu
          exact ⟨rfl, cells_AR hn (hev (i, x) (by simp) v hv)⟩
        | succ k => exact h2 k p u (by simpa using hp) (by simpa using hu)
    · cases h
theorem PureOp.build {d : Option Tmp} {t : TypeId} {parts : List (Nat × Operand)} {C C' : Array Value} {place : Nat → Option (Nat × Nat)} {pv : List (Nat × Value)} {ty : TypeId} {pos : String} {af : Array Edge} {g} [TZ P t C] [BP P t place]
    (hx : aparts fr parts = some pv) (hf : Instr.fill place C pv = some C') : PureOp P ⟨d, .build t parts.toArray, ty, pos, af, g⟩ fr (.agg C') := by
  intro E a w hev
  obtain ⟨z, hz, hC⟩ := TZ.zero (P := P) (t := t) (C := C)
  obtain ⟨h1, h2⟩ := aparts_spec (E := E) (a := a) (fun p hp v hv => hev p.2 (by simp [Op.operands]; exact ⟨p.1, hp⟩) v hv) hx
  obtain ⟨D', hD, hR⟩ := fill_AR (E := E) pv (parts.map fun p => (p.1, a.eval p.2)) C C C' (TZ.plain P t E) (by simp [h1]) h2 hf
  refine ⟨.agg D', ?_, D', rfl, hR⟩
  have := BP.run (P := P) (t := t) (place := place) z (parts.map fun p => (p.1, a.eval p.2)).toArray D' w (run_zero hz w) (by rw [hC]; exact hD)
  unfold execOp
  simp only [List.map_toArray]
  simp only [Sem.run_bind, this, Result.andThen_ok, Sem.run_pure]
/-- The length of a slice, a string. -/
theorem PureOp.len {d : Option Tmp} {T e : TypeId} {x : Operand} {n o len cp : Nat} {ty : TypeId} {pos : String} {af : Array Edge} {g} [TS P T e] (hx : aeval fr x = some (.slice (some ⟨n, o, none⟩) len cp)) :
    PureOp P ⟨d, .call { callee := .builtin .len, args := #[x], argTypes := #[T] }, ty, pos, af, g⟩ fr (.int .i64 (len : Int)) := by
  intro E a w hev
  obtain ⟨l, hl, e1⟩ := hev x (by simp [Op.operands, Call.operands]) _ hx
  refine ⟨.int .i64 (len : Int), ?_, rfl⟩
  unfold execOp
  simp [resolve, invoke, builtin, Builtin.len_, e1, run_underlying (TS.un (P := P) (t := T) (e := e)), goInt]
theorem PureOp.lenNil {d : Option Tmp} {T e : TypeId} {x : Operand} {len cp : Nat} {ty : TypeId} {pos : String} {af : Array Edge} {g} [TS P T e] (hx : aeval fr x = some (.slice none len cp)) :
    PureOp P ⟨d, .call { callee := .builtin .len, args := #[x], argTypes := #[T] }, ty, pos, af, g⟩ fr (.int .i64 (len : Int)) := by
  intro E a w hev
  have e1 : a.eval x = .slice none len cp := hev x (by simp [Op.operands, Call.operands]) _ hx
  refine ⟨.int .i64 (len : Int), ?_, rfl⟩
  unfold execOp
  simp [resolve, invoke, builtin, Builtin.len_, e1, run_underlying (TS.un (P := P) (t := T) (e := e)), goInt]
end
section
variable {P : Program} {N lo : Nat} {nx : Nat} {fr : Fr} {mem : Mem} {K : St → Prop} {ops : Array Oper} {rest : List Oper} {dr : Bool} {lg : List Foot} {ty : TypeId} {pos : String} {af : Array Edge} {d : Tmp} {v : Value} {x y : Operand}
theorem L.build {t : TypeId} {parts : List (Nat × Operand)} {C : Array Value} {place : Nat → Option (Nat × Nat)} {pv : List (Nat × Value)} [TZ P t C] [BP P t place] (C' : Array Value)
    (hx : aparts fr parts = some pv) (hf : Instr.fill place C pv = some C') (hd : dstOk (some d) N = true)
    (h : SpL P N lo ops dr rest ⟨nx, (d, .agg C') :: fr, mem, ⟨[], []⟩ :: lg⟩ K) : SpL P N lo ops dr (⟨some d, .build t parts.toArray, ty, pos, af, none⟩ :: rest) ⟨nx, fr, mem, lg⟩ K :=
  SpL.pure (PureOp.build hx hf) rfl (dstOut hd) h
theorem L.len {T e n o len cp : Nat} [TS P T e] (hx : aeval fr x = some (.slice (some ⟨n, o, none⟩) len cp)) (hd : dstOk (some d) N = true)
    (h : SpL P N lo ops dr rest ⟨nx, (d, .int .i64 (len : Int)) :: fr, mem, ⟨[], []⟩ :: lg⟩ K) : SpL P N lo ops dr (⟨some d, .call { callee := .builtin .len, args := #[x], argTypes := #[T] }, ty, pos, af, none⟩ :: rest) ⟨nx, fr, mem, lg⟩ K :=
  SpL.pure (PureOp.len (e := e) hx) rfl (dstOut hd) h
theorem L.lenNil {T e len cp : Nat} [TS P T e] (hx : aeval fr x = some (.slice none len cp)) (hd : dstOk (some d) N = true)
    (h : SpL P N lo ops dr rest ⟨nx, (d, .int .i64 (len : Int)) :: fr, mem, ⟨[], []⟩ :: lg⟩ K) : SpL P N lo ops dr (⟨some d, .call { callee := .builtin .len, args := #[x], argTypes := #[T] }, ty, pos, af, none⟩ :: rest) ⟨nx, fr, mem, lg⟩ K :=
  SpL.pure (PureOp.lenNil (e := e) hx) rfl (dstOut hd) h
/-- An element of an array value: of one cell. -/
theorem PureOp.index {P : Program} {fr : Fr} {d : Option Tmp} {T e len j : Nat} {x y : Operand} {C : Array Value} {k : IntKind} {v : Value} {ty : TypeId} {pos : String} {af : Array Edge} {g} [TA P T len e] [TI P e false 1] (hx : aeval fr x = some (.agg C)) (hy : aeval fr y = some (.int k (j : Int))) (hj : j < len) (hv : C[j]? = some v) :
    PureOp P ⟨d, .index T x y, ty, pos, af, g⟩ fr v := by
  intro E a w hev
  obtain ⟨D, e1, hD⟩ := hev x (by simp [Op.operands]) _ hx
  have e2 := R3_int (hev y (by simp [Op.operands]) _ hy)
  obtain ⟨u, hu, hr⟩ := hD.2 j v hv
  refine ⟨u, ?_, R3_of_R1 hr⟩
  have hs := size_one (P := P) (TI.sz (P := P) (t := e) (agg := false) (sz := 1))
  unfold execOp
  simp only [e1, e2, Instr.index, asIntOf, Sem.run_bind, Sem.run_pure, Result.andThen_ok, run_underlying (TA.un (P := P) (t := T) (len := len) (e := e))]
  rw [if_pos ⟨by omega, by omega⟩]
  simp [part, hs w, run_isAgg (TI.ag (P := P) (t := e) (sz := 1)), hu]
theorem L.indexW {T e len j w : Nat} {k k' : IntKind} {l : List (BitVec w)} [TA P T len e] [TI P e false 1] (hx : aeval fr x = some (.agg (arr k' l))) (hy : aeval fr y = some (.int k (j : Int))) (hj : j < len) (hl : j < l.length) (hd : dstOk (some d) N = true)
    (h : SpL P N lo ops dr rest ⟨nx, (d, .int k' (nb (at_ l j))) :: fr, mem, ⟨[], []⟩ :: lg⟩ K) : SpL P N lo ops dr (⟨some d, .index T x y, ty, pos, af, none⟩ :: rest) ⟨nx, fr, mem, lg⟩ K :=
  SpL.pure (PureOp.index (e := e) hx hy hj (arr_get k' l j hl)) rfl (dstOut hd) h
end
end Go.Proofs.YtbfakdpnefhgkaaDoor.Sl
