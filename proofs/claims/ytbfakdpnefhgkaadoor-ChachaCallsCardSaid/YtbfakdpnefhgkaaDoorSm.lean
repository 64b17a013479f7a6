/-
  Slices that are made, appended to, copied; strings out of bytes; equalities. Plain lemmas, over any program.
-/
import Derived.Test.YtbfakdpnefhgkaaDoorSk
import Derived.Test.YtbfakdpnefhgkaaDoorEq
import Derived.Laws.OwnMore
set_option linter.unusedSimpArgs false
set_option linter.unusedVariables false
namespace Go.Proofs.YtbfakdpnefhgkaaDoor.Sl
open Go Go.RowKit Bv Mem
theorem capOf_lt {t c : Nat} (h : c < capU) : capOf t c = c := by rw [capOf, if_neg (by omega)]
class TBy (P : Program) (t : TypeId) (by_ : outParam Nat) : Prop where
  by_ : (P.info? t).map (·.bytes) = some by_
theorem loadVar_run {P : Program} {t : TypeId} {sz b o : Nat} {D : Array Value} {t' : TypeId} {fz : Nat × Nat} {w : World} (ht : aggT P t = some true) (hs : (P.info? t).map (·.size) = some sz) (ho : w.heap[b]? = some (.cells D t' fz)) (hle : o + sz ≤ D.size) :
    (loadVar t ⟨b, o, none⟩).run P w = .ok (.agg (D.extract o (o + sz))) w := by
  cases hq : P.info? t with
  | none => simp [hq] at hs
  | some inf =>
    have hsz : inf.size = sz := by simpa [hq] using hs
    have hlc : (loadCells ⟨b, o, none⟩ sz).run P w = .ok (D.extract o (o + sz)) w := by
      rw [run_loadCells (P := P) (w := w) ⟨b, o, none⟩ sz (fun j => D.getD (o + j) undef)]
      · congr 1
        apply Array.ext_getElem?
        intro i
        rcases Nat.lt_or_ge i sz with hi | hi
        · rw [ext_at hi hle]
          simp [hi, show o + i < D.size by omega]
        · rw [Array.getElem?_eq_none (by simp; omega), Array.getElem?_eq_none (by simp; omega)]
      · intro j hj
        rw [add_addr]
        simp [World.cell?, ho, show o + j < D.size by omega]
    simp [loadVar, run_isAgg ht, sizeOf, typeInfo, hq, hsz, hlc]
/-- A package's table is read whole. -/
theorem ReadOp.loadG {P : Program} {fr : Fr} {d : Option Tmp} {t : TypeId} {g sz : Nat} {C : Array Value} {opn rw : Bool} {ty : TypeId} {pos : String} {af : Array Edge} {gd} (ht : aggT P t = some true) (hs : (P.info? t).map (·.size) = some sz) (hC : C.size = sz) :
    ReadOp P ⟨d, .load t (.global g), ty, pos, af, gd⟩ fr (GB + g) (.cells C opn rw) (.agg C) := by
  intro E a w l hev hl hB hg
  obtain ⟨h1, h2⟩ := hg (Nat.le_add_right _ _)
  have hb : l.blk = g := by omega
  obtain ⟨D, t', fz, ho, g1, g2, g3, g4, g5⟩ := hB
  rw [hb] at ho
  rw [h2] at g1 g5
  have := loadVar_run (P := P) (o := 0) ht hs ho (by omega)
  refine ⟨.agg (D.extract 0 (0 + sz)), ?_, _, rfl, by simp; omega, fun i v hv => ?_⟩
  · unfold execOp
    simp only [Act.eval, Instr.loadAt, Instr.sureAddr, Sem.run_bind, Sem.run_pure, Result.andThen_ok, this]
  · have hi : i < sz := by have := (Array.getElem?_eq_some_iff.1 hv).1; omega
    obtain ⟨u, hu, hr⟩ := g5 i v hv
    exact ⟨u, by rw [ext_at hi (by omega)]; exact hu, hr⟩
theorem PureOp.indexA {P : Program} {fr : Fr} {d : Option Tmp} {T e len j sz : Nat} {x y : Operand} {C : Array Value} {k : IntKind} {ty : TypeId} {pos : String} {af : Array Edge} {g} [TA P T len e] [TI P e true sz] (hx : aeval fr x = some (.agg C)) (hy : aeval fr y = some (.int k (j : Int))) (hj : j < len) (hle : j * sz + sz ≤ C.size) :
    PureOp P ⟨d, .index T x y, ty, pos, af, g⟩ fr (.agg (C.extract (j * sz) (j * sz + sz))) := by
  intro E a w hev
  obtain ⟨D, e1, hD⟩ := hev x (by simp [Op.operands]) _ hx
  have e2 := R3_int (hev y (by simp [Op.operands]) _ hy)
  have hs : (sizeOf e).run P w = .ok sz w := by
    have h := TI.sz (P := P) (t := e) (agg := true) (sz := sz)
    cases hq : P.info? e with
    | none => simp [hq] at h
    | some inf => have : inf.size = sz := by simpa [hq] using h
                  simp [sizeOf, typeInfo, hq, this]
  refine ⟨.agg (D.extract (j * sz) (j * sz + sz)), ?_, _, rfl, by simp [hD.1], fun i v hv => ?_⟩
  · unfold execOp
    simp only [e1, e2, Instr.index, asIntOf, Sem.run_bind, Sem.run_pure, Result.andThen_ok, run_underlying (TA.un (P := P) (t := T) (len := len) (e := e))]
    rw [if_pos ⟨by omega, by omega⟩]
    simp [part, hs, run_isAgg (TI.ag (P := P) (t := e) (sz := sz))]
  · have hi : i < sz := by have := (Array.getElem?_eq_some_iff.1 hv).1; simp at this; omega
    rw [ext_at hi hle] at hv
    obtain ⟨u, hu, hr⟩ := hD.2 _ v hv
    exact ⟨u, by rw [ext_at hi (by rw [← hD.1]; exact hle)]; exact hu, hr⟩
/-! ### Slices that are made -/
theorem rep_cells (z : Value) (n : Nat) : madeCells #[z] n = (List.replicate n z).toArray := by
  apply Array.ext'
  rw [toList_madeCells_one]
theorem MakeOp.makeSlice {P : Program} {fr : Fr} {d : Option Tmp} {T e by_ len cp : Nat} {x y : Operand} {k k' : IntKind} {z : Value} {ty : TypeId} {pos : String} {af : Array Edge} {g} [TS P T e] [TI P e false 1] [TBy P e by_] [TZ P e #[z]] (hx : aeval fr x = some (.int k (len : Int))) (hy : aeval fr y = some (.int k' (cp : Int)))
    (hlc : len ≤ cp) (hb : by_ * cp ≤ 281474976710656) (hc : cp < 9223372036854775808) : MakeOp P ⟨d, .makeSlice T x y, ty, pos, af, g⟩ fr (List.replicate cp z).toArray false (fun n => .slice (some ⟨n, 0, none⟩) len cp) := by
  intro E a w hev
  have e1 := R3_int (hev x (by simp [Op.operands]) _ hx)
  have e2 := R3_int (hev y (by simp [Op.operands]) _ hy)
  obtain ⟨z', hz, hC⟩ := TZ.zero (P := P) (t := e) (C := #[z])
  have hby := TBy.by_ (P := P) (t := e) (by_ := by_)
  have hsz := TI.sz (P := P) (t := e) (agg := false) (sz := 1)
  cases hq : P.info? e with
  | none => simp [hq] at hby
  | some inf =>
    have h1 : inf.bytes = by_ := by simpa [hq] using hby
    have h2 : inf.size = 1 := by simpa [hq] using hsz
    have h3 : inf.zero = some z' := by simpa [hq] using hz
    have := run_make (P := P) w T e inf z' (TS.un (P := P) (t := T) (e := e)) hq h3 k k' len cp (by omega) (by omega) (by rw [h1]; have := Int.ofNat_le.2 hb; rw [Int.natCast_mul] at this; exact this) (by omega)
    refine ⟨e, (List.replicate cp z).toArray, w.alloc (.cells (List.replicate cp z).toArray e), .slice (some ⟨w.heap.size, 0, none⟩) len cp, ?_, rfl, rfl, rfl, rfl, Nat.le_refl _, fun _ => rfl, fun i v hv => ⟨v, hv, ?_⟩, fun E' n _ hn => ⟨_, hn, ?_⟩⟩
    · unfold execOp
      simp only [e1, e2, Sem.run_bind, this, Result.andThen_ok, Sem.run_pure, hC, h2, Nat.mul_one, Int.toNat_natCast, rep_cells]
    · have hv' : v = z := by
        have := Array.mem_of_getElem? hv
        simp at this; exact this.2
      subst hv'
      have := (TZ.plain P e (C := #[v]) E).2 0 v rfl
      obtain ⟨u, hu, hr⟩ := this
      simp at hu; subst hu; exact hr
    · rw [capOf_lt (by unfold capU; omega)]
theorem arr_zeros (k : IntKind) (w n : Nat) : (List.replicate n (Value.int k 0)).toArray = arr k (List.replicate n (0#w)) := by
  simp [arr, nb]
/-- A literal slice. -/
theorem MakeOp.buildSlice {P : Program} {fr : Fr} {d : Option Tmp} {T e len sz : Nat} {b : Bool} {parts : List (Nat × Operand)} {pv : List (Nat × Value)} {Z C' : Array Value} {ty : TypeId} {pos : String} {af : Array Edge} {g} [TS P T e] [TI P e b sz] [TZ P e Z] (hx : aparts fr parts = some pv)
    (hsmall : len * sz ≤ 16777216) (hc : len < capU) (hf : Instr.fill (apl sz) ((Array.range (len * sz)).map fun i => Z[i % Z.size]!) pv = some C') : MakeOp P ⟨d, .buildSlice T len parts.toArray, ty, pos, af, g⟩ fr C' false (fun n => .slice (some ⟨n, 0, none⟩) len len) := by
  intro E a w hev
  obtain ⟨z, hz, hC⟩ := TZ.zero (P := P) (t := e) (C := Z)
  obtain ⟨h1, h2⟩ := aparts_spec (E := E) (a := a) (fun p hp v hv => hev p.2 (by simp [Op.operands]; exact ⟨p.1, hp⟩) v hv) hx
  have hbase : AR (R1 E) ((Array.range (len * sz)).map fun i => Z[i % Z.size]!) ((Array.range (len * sz)).map fun i => Z[i % Z.size]!) := by
    refine ⟨rfl, fun i v hv => ⟨v, hv, ?_⟩⟩
    simp only [Array.getElem?_map, Option.map_eq_some_iff] at hv
    obtain ⟨j, hj, rfl⟩ := hv
    by_cases hzs : Z.size = 0
    · have : Z = #[] := by simpa using hzs
      subst this
      simp
      exact (show R1 E (.bool false) (.bool false) from rfl)
    · have hlt : j % Z.size < Z.size := Nat.mod_lt _ (by omega)
      obtain ⟨u, hu, hr⟩ := (TZ.plain P e (C := Z) E).2 (j % Z.size) Z[j % Z.size] (Array.getElem?_eq_getElem hlt)
      rw [Array.getElem?_eq_getElem hlt] at hu
      injection hu with hu
      rw [getElem!_pos Z _ hlt]
      rw [← hu] at hr
      exact hr
  obtain ⟨D', hD, hR⟩ := fill_AR (E := E) pv (parts.map fun p => (p.1, a.eval p.2)) _ _ C' hbase (by simp [h1]) h2 hf
  have hs : (sizeOf e).run P w = .ok sz w := by
    have h := TI.sz (P := P) (t := e) (agg := b) (sz := sz)
    cases hq : P.info? e with
    | none => simp [hq] at h
    | some inf => have : inf.size = sz := by simpa [hq] using h
                  simp [sizeOf, typeInfo, hq, this]
  refine ⟨e, D', w.alloc (.cells D' e), .slice (some ⟨w.heap.size, 0, none⟩) len len, ?_, rfl, rfl, rfl, rfl, by rw [hR.1]; exact Nat.le_refl _, fun _ => hR.1, hR.2, fun E' n _ hn => ⟨_, hn, by rw [capOf_lt hc]⟩⟩
  have hn : ¬ (2 ^ 24 < len * sz) := by have : (2:Nat)^24 = 16777216 := by decide
                                        omega
  unfold execOp
  simp only [List.map_toArray, Instr.buildSlice, Sem.run_bind, run_underlying (TS.un (P := P) (t := T) (e := e)), Result.andThen_ok, hs, Sem.run_ite]
  rw [if_neg (by simpa using hn)]
  unfold apl at hD
  by_cases h0 : len * sz = 0
  · have hzz : ((Array.range (len * sz)).map fun i => (#[] : Array Value)[i % (#[] : Array Value).size]!) = (Array.range (len * sz)).map fun i => Z[i % Z.size]! := by simp [h0]
    rw [if_pos h0]
    simp only [Sem.run_pure, Result.andThen_ok]
    rw [hzz, hD]
    rfl
  · rw [if_neg h0]
    simp only [Sem.run_bind, run_zero hz, Sem.run_pure, Result.andThen_ok, hC]
    rw [hD]
    rfl
end Go.Proofs.YtbfakdpnefhgkaaDoor.Sl
