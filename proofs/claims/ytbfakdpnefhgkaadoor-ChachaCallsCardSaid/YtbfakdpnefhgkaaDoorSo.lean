/-
  Appends that make a new block; copies; conversions; equalities. Plain lemmas, over any program.
-/
import Derived.Test.YtbfakdpnefhgkaaDoorSn
set_option linter.unusedSimpArgs false
set_option linter.unusedVariables false
namespace Go.Proofs.YtbfakdpnefhgkaaDoor.Sl
open Go Go.RowKit Bv Mem
/-- An operation that reads what it is told and makes a block of its own. -/
theorem LocalOp.newR {P : Program} {o : Oper} {fr : Fr} {m0 : Mem} {C : Array Value} {opn : Bool} {v : Nat → Value} (hro : ∀ n b, mfind m0 n = some b → b.rw = false)
    (h : ∀ E a w, Ev o.op fr E a → Rep E m0 w → ∃ t D W u, (execOp a.eval o).run P w = .ok (.value u) W ∧ W.heap = w.heap.push (.cells D t) ∧ W.os = w.os ∧ W.tape = w.tape ∧ W.output = w.output ∧ C.size ≤ D.size ∧ (opn = false → C.size = D.size) ∧
      (∀ (i : Nat) x, C[i]? = some x → ∃ y, D[i]? = some y ∧ R1 E x y) ∧ ∀ E' n, Env.le E E' → E' n = some ⟨w.heap.size, 0, D.size⟩ → R3 E' (v n) u) (n : Nat) : LocalOp P o fr m0 [n] (fun v' m' => v' = v n ∧ m' = [(n, some (.cells C opn true))]) := by
  intro E a w hev hrep hfresh next Q hnext
  obtain ⟨t, D, W, u, hrun, hheap, hos, htape, hout, hsz, hopn, hC, hv⟩ := h E a w hev hrep
  have hn := hfresh n (by simp)
  have hle := Env.plus_le (E := E) ⟨w.heap.size, 0, D.size⟩ hn.1
  unfold Oper.wp
  rw [hrun]
  refine hnext (E.plus n ⟨w.heap.size, 0, D.size⟩) _ u _ W ⟨rfl, rfl⟩ hle (fun k hk => Env.plus_ne (by simpa using hk)) (hv _ n hle (Env.plus_at _ _ _)) ⟨fun k b hb => ?_, ?_, fun g l hg hl => ?_⟩ ⟨hos, htape, hout, ?_, fun x hx ho => ⟨heap_push_lt hheap hx, ?_⟩⟩
  · rw [mfind_cons] at hb
    by_cases hk : n = k
    · rw [if_pos hk] at hb; injection hb with hb; subst hb; subst hk
      refine ⟨_, Env.plus_at _ _ _, D, t, (0, 0), heap_push_at hheap, by simp, hsz, hopn, fun _ => thaw0 _, fun i x hx => ?_⟩
      obtain ⟨y, hy, hr⟩ := hC i x hx
      exact ⟨y, by simpa using hy, hr.le hle⟩
    · rw [if_neg hk] at hb; cases hb
  · intro k b k' b' l l' h1 h2
    rw [mfind_cons] at h1 h2
    by_cases hk : n = k
    · by_cases hk' : n = k'
      · intros; omega
      · rw [if_neg hk'] at h2; cases h2
    · rw [if_neg hk] at h1; cases h1
  · by_cases hk : g = n
    · subst hk; have := hn.2; omega
    · rw [Env.plus_ne hk] at hl; exact hrep.glob g l hg hl
  · rw [hheap]; simp
  · rintro ⟨k, b, l, h1, h2, h3, h4⟩
    rw [mfind_cons] at h1
    by_cases hk : n = k
    · subst hk
      rw [Env.plus_at] at h3
      injection h3 with h3
      subst h3
      simp at h4
      omega
    · rw [if_neg hk] at h1; cases h1
section
variable {P : Program} {fr : Fr} {d : Option Tmp} {T e sz by_ : Nat} {b : Bool} {Z : Array Value} {x y : Operand} {ty : TypeId} {pos : String} {af : Array Edge} {g : Option (Nat × Bool)}
/-- Onto a slice without room. -/
theorem LocalOp.appG [TS P T e] [TI P e b sz] [TBy P e by_] [TZ P e Z] {m0 : Mem} {n o n2 o2 len cp m cp2 : Nat} {C C2 : Array Value} {opn opn2 : Bool} (hro : ∀ n b, mfind m0 n = some b → b.rw = false) (hx : aeval fr x = some (.slice (some ⟨n, o, none⟩) len cp)) (hy : aeval fr y = some (.slice (some ⟨n2, o2, none⟩) m cp2))
    (h1 : mfind m0 n = some (.cells C opn false)) (h2 : mfind m0 n2 = some (.cells C2 opn2 false)) (hC : o + len * sz ≤ C.size) (hC2 : o2 + m * sz ≤ C2.size) (hcp : cp < capU) (hno : cp < len + m) (hZ : Z.size = sz) (hsz : 0 < sz) (hb : (len + m) * by_ ≤ 140737488355328) (h63 : len + m < 9223372036854775808) (k : Nat) :
    LocalOp P ⟨d, .call { callee := .builtin .append, args := #[x, y], argTypes := #[T, T] }, ty, pos, af, g⟩ fr m0 [k]
      (fun v m' => v = .slice (some ⟨k, 0, none⟩) (len + m) (capU + sz) ∧ m' = [(k, some (.cells (C.extract o (o + len * sz) ++ C2.extract o2 (o2 + m * sz)) true true))]) := by
  refine LocalOp.newR (v := fun k => .slice (some ⟨k, 0, none⟩) (len + m) (capU + sz)) hro (fun E a w hev hrep => ?_) k
  obtain ⟨l, hl, e1⟩ := hev x (by simp [Op.operands, Call.operands]) _ hx
  obtain ⟨l2, hl2, e2⟩ := hev y (by simp [Op.operands, Call.operands]) _ hy
  rw [capOf_lt hcp] at e1
  obtain ⟨l', hl', hB⟩ := hrep.at_ n _ h1
  rw [hl] at hl'; injection hl' with hl'; subst hl'
  obtain ⟨l2', hl2', hB2⟩ := hrep.at_ n2 _ h2
  rw [hl2] at hl2'; injection hl2' with hl2'; subst hl2'
  obtain ⟨X, hXs, hXc, hXr, _⟩ := src_of hB2 hC2
  obtain ⟨Y, hYs, hYc, hYr, _⟩ := src_of hB hC
  obtain ⟨inf, z, hq, hisz, hiby, hiz, hzC⟩ := info_of (P := P) (e := e) (b := b) (sz := sz) (by_ := by_) (Z := Z)
  have hrun := run_append_grow (P := P) w T ty e inf z (TS.un (P := P) (t := T) (e := e)) hq hiz ⟨l.blk, l.base + o, none⟩ len cp Y.toList (by simp [hYs, hisz]) hYc ⟨l2.blk, l2.base + o2, none⟩ m (capOf (l2.top - o2) cp2) X.toList (by simp [hXs, hisz]) hXc hno (by omega)
      (growslice_fits hno (by rw [hiby]; exact hb))
  have hgc := grownCap_ge w (len + m) cp e
  revert hrun
  generalize grownCap w (len + m) cp e = G at *
  intro hrun
  have hsz2 : (Y.toList.toArray ++ X.toList.toArray ++ Builtin.zeroCells z.cells (G - (len + m))).size = G * sz := by
    simp only [Array.size_append, zeroCells_size, hzC, hZ, List.size_toArray, Array.length_toList, hYs, hXs]
    rw [Nat.sub_mul, Nat.add_mul]
    have := Nat.mul_le_mul_right sz hgc
    rw [Nat.add_mul] at this
    omega
  have har := AR_append hYr hXr
  refine ⟨e, Y.toList.toArray ++ X.toList.toArray ++ Builtin.zeroCells z.cells (G - (len + m)), w.drew.alloc (.cells (Y.toList.toArray ++ X.toList.toArray ++ Builtin.zeroCells z.cells (G - (len + m))) e), .slice (some ⟨w.heap.size, 0, none⟩) (len + m) G, by rw [exec_append, e1, e2, hrun]; rfl, rfl, rfl, rfl, rfl, ?_, (fun h => by cases h), fun i v hv => ?_, fun E' n _ hn => ⟨_, hn, ?_⟩⟩
  · rw [har.1]; simp
  · obtain ⟨y, hy, hr⟩ := har.2 i v hv
    refine ⟨y, ?_, hr⟩
    rw [Array.getElem?_append_left (by have := (Array.getElem?_eq_some_iff.1 hy).1; simpa using this)]
    simpa using hy
  · have : capOf (G * sz - 0) (capU + sz) = G := by unfold capOf; rw [if_pos (by omega)]; simp [Nat.mul_div_cancel _ hsz]
    rw [hsz2, this]
/-- Onto nil. -/
theorem LocalOp.appNil [TS P T e] [TI P e b sz] [TBy P e by_] [TZ P e Z] {m0 : Mem} {n2 o2 m cp2 : Nat} {C2 : Array Value} {opn2 : Bool} (hro : ∀ n b, mfind m0 n = some b → b.rw = false) (hx : aeval fr x = some (.slice none 0 0)) (hy : aeval fr y = some (.slice (some ⟨n2, o2, none⟩) m cp2))
    (h2 : mfind m0 n2 = some (.cells C2 opn2 false)) (hC2 : o2 + m * sz ≤ C2.size) (hm : 0 < m) (hZ : Z.size = sz) (hsz : 0 < sz) (hb : m * by_ ≤ 140737488355328) (h63 : m < 9223372036854775808) (k : Nat) :
    LocalOp P ⟨d, .call { callee := .builtin .append, args := #[x, y], argTypes := #[T, T] }, ty, pos, af, g⟩ fr m0 [k]
      (fun v m' => v = .slice (some ⟨k, 0, none⟩) m (capU + sz) ∧ m' = [(k, some (.cells (C2.extract o2 (o2 + m * sz)) true true))]) := by
  refine LocalOp.newR (v := fun k => .slice (some ⟨k, 0, none⟩) m (capU + sz)) hro (fun E a w hev hrep => ?_) k
  have e1 : a.eval x = .slice none 0 0 := hev x (by simp [Op.operands, Call.operands]) _ hx
  obtain ⟨l2, hl2, e2⟩ := hev y (by simp [Op.operands, Call.operands]) _ hy
  obtain ⟨l2', hl2', hB2⟩ := hrep.at_ n2 _ h2
  rw [hl2] at hl2'; injection hl2' with hl2'; subst hl2'
  obtain ⟨X, hXs, hXc, hXr, _⟩ := src_of hB2 hC2
  obtain ⟨inf, z, hq, hisz, hiby, hiz, hzC⟩ := info_of (P := P) (e := e) (b := b) (sz := sz) (by_ := by_) (Z := Z)
  have hrun := run_append_nil (P := P) w T ty e inf z (TS.un (P := P) (t := T) (e := e)) hq hiz ⟨l2.blk, l2.base + o2, none⟩ m (capOf (l2.top - o2) cp2) X.toList (by simp [hXs, hisz]) hXc hm (by omega) (by rw [hiby]; omega)
  have hgc := grownCap_ge w m 0 e
  revert hrun
  generalize grownCap w m 0 e = G at *
  intro hrun
  have hsz2 : (X.toList.toArray ++ Builtin.zeroCells z.cells (G - m)).size = G * sz := by
    simp only [Array.size_append, zeroCells_size, hzC, hZ, List.size_toArray, Array.length_toList, hXs]
    rw [Nat.sub_mul]
    have := Nat.mul_le_mul_right sz hgc
    omega
  refine ⟨e, X.toList.toArray ++ Builtin.zeroCells z.cells (G - m), w.drew.alloc (.cells (X.toList.toArray ++ Builtin.zeroCells z.cells (G - m)) e), .slice (some ⟨w.heap.size, 0, none⟩) m G, by rw [exec_append, e1, e2, hrun]; rfl, rfl, rfl, rfl, rfl, ?_, (fun h => by cases h), fun i v hv => ?_, fun E' n _ hn => ⟨_, hn, ?_⟩⟩
  · rw [hXr.1]; simp
  · obtain ⟨y, hy, hr⟩ := hXr.2 i v hv
    refine ⟨y, ?_, hr⟩
    rw [Array.getElem?_append_left (by have := (Array.getElem?_eq_some_iff.1 hy).1; simpa using this)]
    simpa using hy
  · have : capOf (G * sz - 0) (capU + sz) = G := by unfold capOf; rw [if_pos (by omega)]; simp [Nat.mul_div_cancel _ hsz]
    rw [hsz2, this]
/-- Nothing is appended: to nil. -/
theorem PureOp.appNil0 [TS P T e] [TI P e b sz] {c2 : Nat} (hx : aeval fr x = some (.slice none 0 0)) (hy : aeval fr y = some (.slice none 0 c2)) :
    PureOp P ⟨d, .call { callee := .builtin .append, args := #[x, y], argTypes := #[T, T] }, ty, pos, af, g⟩ fr (.slice none 0 0) := by
  intro E a w hev
  have e1 : a.eval x = .slice none 0 0 := hev x (by simp [Op.operands, Call.operands]) _ hx
  have e2 : a.eval y = .slice none 0 c2 := hev y (by simp [Op.operands, Call.operands]) _ hy
  have hs : (sizeOf e).run P w = .ok sz w := by
    have h := TI.sz (P := P) (t := e) (agg := b) (sz := sz)
    cases hq : P.info? e with
    | none => simp [hq] at h
    | some inf => have : inf.size = sz := by simpa [hq] using h
                  simp [sizeOf, typeInfo, hq, this]
  refine ⟨.slice none 0 0, ?_, rfl⟩
  rw [exec_append, e1, e2]
  simp [Builtin.append_, run_underlying (TS.un (P := P) (t := T) (e := e)), hs, Builtin.lenOf, Builtin.firstCells]
theorem PureOp.appNilE [TS P T e] [TI P e b sz] {n2 o2 c2 : Nat} (hx : aeval fr x = some (.slice none 0 0)) (hy : aeval fr y = some (.slice (some ⟨n2, o2, none⟩) 0 c2)) :
    PureOp P ⟨d, .call { callee := .builtin .append, args := #[x, y], argTypes := #[T, T] }, ty, pos, af, g⟩ fr (.slice none 0 0) := by
  intro E a w hev
  have e1 : a.eval x = .slice none 0 0 := hev x (by simp [Op.operands, Call.operands]) _ hx
  obtain ⟨l2, hl2, e2⟩ := hev y (by simp [Op.operands, Call.operands]) _ hy
  have hs : (sizeOf e).run P w = .ok sz w := by
    have h := TI.sz (P := P) (t := e) (agg := b) (sz := sz)
    cases hq : P.info? e with
    | none => simp [hq] at h
    | some inf => have : inf.size = sz := by simpa [hq] using h
                  simp [sizeOf, typeInfo, hq, this]
  refine ⟨.slice none 0 0, ?_, rfl⟩
  rw [exec_append, e1, e2]
  simp [Builtin.append_, run_underlying (TS.un (P := P) (t := T) (e := e)), hs, Builtin.lenOf, Builtin.firstCells, loadCells, loadCellsFrom]
/-- Bytes as a string. -/
theorem ReadOp.str {A B : TypeId} [TS P A e] [TK P e .u8] (hB : P.underlying B = some .string) {n o len cp : Nat} {l : List (BitVec 8)} {opn rw : Bool} (hx : aeval fr x = some (.slice (some ⟨n, o, none⟩) len cp)) (hle : o + len ≤ l.length) :
    ReadOp P ⟨d, .convert A B x, ty, pos, af, g⟩ fr n (.cells (arr .u8 l) opn rw) (.string (str ((l.drop o).take len))) := by
  intro E a w lc hev hl hB' _
  obtain ⟨l', hl', e1⟩ := hev x (by simp [Op.operands]) _ hx
  rw [hl] at hl'; injection hl' with hl'; subst hl'
  obtain ⟨D, t, fz, ho, h1, h2, h3, h4, h5⟩ := hB'
  have hlen : ((l.drop o).take len).length = len := by rw [List.length_take, List.length_drop]; omega
  have := run_str (P := P) (TS.un (P := P) (t := A) (e := e)) (TK.un (P := P) (t := e)) hB lc.blk (lc.base + o) (capOf (lc.top - o) cp) ((l.drop o).take len) w (fun i hi => by
    rw [hlen] at hi
    obtain ⟨u, hu, hr⟩ := h5 (o + i) _ (arr_get .u8 l (o + i) (by omega))
    rw [show u = _ from hr] at hu
    have : at_ ((l.drop o).take len) i = at_ l (o + i) := by simp [at_, List.getD_eq_getElem?_getD, hi]
    rw [this]
    simp [World.cell?, ho, ← hu, Nat.add_assoc])
  rw [hlen] at this
  refine ⟨.string (Mem.str ((l.drop o).take len)), ?_, rfl⟩
  unfold execOp
  simp [e1, this]
theorem PureOp.strNil {A B : TypeId} [TS P A e] [TK P e .u8] (hB : P.underlying B = some .string) {c : Nat} (hx : aeval fr x = some (.slice none 0 c)) : PureOp P ⟨d, .convert A B x, ty, pos, af, g⟩ fr (.string (Mem.str [])) := by
  intro E a w hev
  have e1 : a.eval x = .slice none 0 c := hev x (by simp [Op.operands]) _ hx
  refine ⟨.string (Mem.str []), ?_, rfl⟩
  unfold execOp
  simp [e1, convert, run_underlying (TS.un (P := P) (t := A) (e := e)), run_underlying hB, run_underlying (TK.un (P := P) (t := e) (k := .u8)), Conv.bytesToString]
  rfl
theorem PureOp.binS {op : BinOp} {T T' : TypeId} {m n : ByteArray} {r : Bool} (hx : aeval fr x = some (.string m)) (hy : aeval fr y = some (.string n)) (h : Op.stringOp op m n = Pure.pure (.bool r)) (hop : op ≠ .shl ∧ op ≠ .shr) : PureOp P ⟨d, .binOp op T x y T', ty, pos, af, g⟩ fr (.bool r) := by
  intro E a w hev
  have e1 := R3_str (hev x (by simp [Op.operands]) _ hx)
  have e2 := R3_str (hev y (by simp [Op.operands]) _ hy)
  refine ⟨.bool r, ?_, rfl⟩
  have hb : binOp op T (.string m) (.string n) = Op.stringOp op m n := by cases op <;> simp_all [binOp]
  unfold execOp
  simp only [e1, e2, Sem.run_bind, eqGuard_str, Result.andThen_ok, hb, h, Sem.run_pure]
/-- Two arrays of numbers, compared. -/
theorem PureOp.eqArr {op : BinOp} {T T' len : Nat} [TA P T len e] [TI P e false 1] {ke : IntKind} [TK P e ke] {k : IntKind} {w : Nat} {l l' : List (BitVec w)} {r : Bool} (hx : aeval fr x = some (.agg (arr k l))) (hy : aeval fr y = some (.agg (arr k l'))) (hl : l.length = len) (hl' : l'.length = len)
    (hc : P.cellsOf e = 1) (hg : P.eqGuardType P.depth T = false) (hr : (op = .eql ∧ r = (l == l')) ∨ (op = .neq ∧ r = !(l == l'))) : PureOp P ⟨d, .binOp op T x y T', ty, pos, af, g⟩ fr (.bool r) := by
  intro E a W hev
  have e1 := R3_arr (hev x (by simp [Op.operands]) _ hx)
  have e2 := R3_arr (hev y (by simp [Op.operands]) _ hy)
  have hsz := TI.sz (P := P) (t := e) (agg := false) (sz := 1)
  cases hq : P.info? e with
  | none => simp [hq] at hsz
  | some inf =>
    have he := run_equal_nums (P := P) (TA.un (P := P) (t := T) (len := len) (e := e)) hq hc (TK.un (P := P) (t := e)) k l l' hl hl' W
    have hguard : (eqGuard op T x y (.agg (arr k l)) (.agg (arr k l'))).run P W = .ok () W := by
      rcases hr with ⟨rfl, _⟩ | ⟨rfl, _⟩ <;> simp [eqGuard, hg]
    refine ⟨.bool r, ?_, rfl⟩
    have he' : (Op.equal T (.agg (arr k l)) (.agg (arr k l'))).run P W = .ok (l == l') W := he
    unfold execOp
    simp only [e1, e2, Sem.run_bind, hguard, Result.andThen_ok]
    rcases hr with ⟨rfl, rfl⟩ | ⟨rfl, rfl⟩
    · simp [binOp, he']
    · simp [binOp, he']
end
end Go.Proofs.YtbfakdpnefhgkaaDoor.Sl
