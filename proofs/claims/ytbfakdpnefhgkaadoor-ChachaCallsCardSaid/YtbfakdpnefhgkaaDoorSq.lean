/-
  The laws of slices, strings, guards, as they are applied. Plain lemmas, over any program.
-/
import Derived.Test.YtbfakdpnefhgkaaDoorSo
set_option linter.unusedSimpArgs false
set_option linter.unusedVariables false
namespace Go.Proofs.YtbfakdpnefhgkaaDoor.Sl
open Go Go.RowKit Bv Mem
section
variable {P : Program} {N lo : Nat} {nx : Nat} {fr : Fr} {mem : Mem} {K : St → Prop} {ops : Array Oper} {rest : List Oper} {dr : Bool} {lg : List Foot} {ty : TypeId} {pos : String} {af : Array Edge} {d : Tmp} {v : Value} {x y : Operand}
theorem L.loadG {t : TypeId} {g sz : Nat} {C : Array Value} [TI P t true sz] (hm : look tabs g = some C) (hs : C.size = sz) (hpl : C.all plain0 = true) (hd : dstOk (some d) N = true)
    (h : SpL P N lo ops dr rest ⟨nx, (d, .agg C) :: fr, mem, ⟨[], []⟩ :: lg⟩ K) : SpL P N lo ops dr (⟨some d, .load t (.global g), ty, pos, af, none⟩ :: rest) ⟨nx, fr, mem, lg⟩ K := by
  have hmem : (g, C) ∈ tabs := by
    revert hm
    generalize tabs = T
    intro hm
    induction T with
    | nil => cases hm
    | cons p T ih =>
      obtain ⟨k, c⟩ := p
      rw [look_cons] at hm
      by_cases hk : k = g
      · rw [if_pos hk] at hm; injection hm with hm; subst hm; subst hk; simp
      · rw [if_neg hk] at hm; simp [ih hm]
  refine SpL.op (s := ⟨nx, fr, mem, lg⟩) (v := .agg C) (m0 := []) (m' := []) (new := []) nx (OpOk.of_local (Ko := fun v' m' => v' = .agg C ∧ m' = []) ?_ ?_ rfl) (fun n b h => by cases h) (fun n h => by cases h) (Nat.le_refl _) (fun k hk => Nat.le_of_ble_eq_true (dstOut hd k hk)) h
  · intro E a w hev hrep _ next Q hnext
    obtain ⟨⟨t', fz, ho⟩, _⟩ := hrep.tab g C hmem
    have := loadVar_run (P := P) (o := 0) (TI.ag (P := P) (t := t) (sz := sz)) (TI.sz (P := P) (t := t) (agg := true)) ho (by omega)
    unfold Oper.wp
    have hrun : (execOp a.eval ⟨some d, .load t (.global g), ty, pos, af, none⟩).run P w = .ok (.value (.agg C)) w := by
      unfold execOp
      simp only [Act.eval, Instr.loadAt, Instr.sureAddr, Sem.run_bind, Sem.run_pure, Result.andThen_ok, this]
      rw [show C.extract 0 (0 + sz) = C by rw [Nat.zero_add, ← hs]; simp]
    rw [hrun]
    exact hnext E _ _ [] w ⟨rfl, rfl⟩ (Env.le.refl E) (fun _ _ => rfl) ⟨C, rfl, AR_plain hpl E⟩ hrep.toRep0 (Kept.refl _ _ _)
  · rintro v' m' ⟨rfl, rfl⟩; exact ⟨(fun n b h => by cases h), (fun n b h => by cases h)⟩
theorem L.indexAg {T e len j sz : Nat} {k : IntKind} {C : Array Value} [TA P T len e] [TI P e true sz] (X : Array Value) (hx : aeval fr x = some (.agg C)) (hy : aeval fr y = some (.int k (j : Int))) (hj : j < len) (hle : j * sz + sz ≤ C.size) (hX : C.extract (j * sz) (j * sz + sz) = X) (hd : dstOk (some d) N = true)
    (h : SpL P N lo ops dr rest ⟨nx, (d, .agg X) :: fr, mem, ⟨[], []⟩ :: lg⟩ K) : SpL P N lo ops dr (⟨some d, .index T x y, ty, pos, af, none⟩ :: rest) ⟨nx, fr, mem, lg⟩ K :=
  SpL.pure (v := .agg X) (by rw [← hX]; exact PureOp.indexA (e := e) hx hy hj hle) rfl (dstOut hd) h
/-- A new slice of numbers. -/
theorem L.make {T e by_ len cp w : Nat} {k k' ke : IntKind} [TS P T e] [TI P e false 1] [TBy P e by_] [TZ P e #[.int ke 0]] [KW ke w] (hx : aeval fr x = some (.int k (len : Int))) (hy : aeval fr y = some (.int k' (cp : Int)))
    (hlc : len ≤ cp) (hb : by_ * cp ≤ 281474976710656) (hc : cp < 9223372036854775808) (hd : dstOk (some d) N = true) (hn : Nat.ble (nx + 1) GB = true)
    (h : SpL P N lo ops dr rest ⟨nx + 1, (d, .slice (some ⟨nx, 0, none⟩) len cp) :: fr, (nx, some (.cells (arr ke (List.replicate cp (0#w))) false true)) :: mem, ⟨[], [nx]⟩ :: lg⟩ K) : SpL P N lo ops dr (⟨some d, .makeSlice T x y, ty, pos, af, none⟩ :: rest) ⟨nx, fr, mem, lg⟩ K := by
  refine SpL.make (v := fun n => .slice (some ⟨n, 0, none⟩) len cp) (MakeOp.makeSlice (e := e) hx hy hlc hb hc) rfl (dstOut hd) hn ?_
  rw [arr_zeros ke w cp]; exact h
theorem arr_one1 (k : IntKind) {w : Nat} (x : BitVec w) : arr k [x] = #[.int k (nb x)] := by simp [arr]
/-- A slice of one number. -/
theorem L.bs1 {T e w : Nat} {k : IntKind} {a : BitVec w} {z : Value} [TS P T e] [TI P e false 1] [TZ P e #[z]] (hx : aeval fr x = some (.int k (nb a))) (hd : dstOk (some d) N = true) (hn : Nat.ble (nx + 1) GB = true)
    (h : SpL P N lo ops dr rest ⟨nx + 1, (d, .slice (some ⟨nx, 0, none⟩) 1 1) :: fr, (nx, some (.cells (arr k [a]) false true)) :: mem, ⟨[], [nx]⟩ :: lg⟩ K) : SpL P N lo ops dr (⟨some d, .buildSlice T 1 #[(0, x)], ty, pos, af, none⟩ :: rest) ⟨nx, fr, mem, lg⟩ K := by
  refine SpL.make (C := arr k [a]) (opn := false) (v := fun n => .slice (some ⟨n, 0, none⟩) 1 1) (MakeOp.buildSlice (e := e) (b := false) (sz := 1) (Z := #[z]) (parts := [(0, x)]) (pv := [(0, .int k (nb a))]) (len := 1) ?_ (by omega) (by decide) ?_) rfl (dstOut hd) hn h
  · simp [aparts, hx, noTuple]
  · rw [arr_one1]
    kernel_rfl
theorem L.bs0 {T e sz : Nat} {b : Bool} {Z : Array Value} [TS P T e] [TI P e b sz] [TZ P e Z] (hd : dstOk (some d) N = true) (hn : Nat.ble (nx + 1) GB = true)
    (h : SpL P N lo ops dr rest ⟨nx + 1, (d, .slice (some ⟨nx, 0, none⟩) 0 0) :: fr, (nx, some (.cells #[] false true)) :: mem, ⟨[], [nx]⟩ :: lg⟩ K) : SpL P N lo ops dr (⟨some d, .buildSlice T 0 #[], ty, pos, af, none⟩ :: rest) ⟨nx, fr, mem, lg⟩ K := by
  refine SpL.make (C := #[]) (opn := false) (v := fun n => .slice (some ⟨n, 0, none⟩) 0 0) (MakeOp.buildSlice (e := e) (b := b) (sz := sz) (Z := Z) (parts := []) (pv := []) (len := 0) rfl (by omega) (by decide) ?_) rfl (dstOut hd) hn h
  simp [Instr.fill]
theorem L.bsN {T e len sz : Nat} {b : Bool} {Z : Array Value} {parts : List (Nat × Operand)} {pv : List (Nat × Value)} [TS P T e] [TI P e b sz] [TZ P e Z] (C' : Array Value) (hx : aparts fr parts = some pv) (hsmall : len * sz ≤ 16777216) (hc : len < capU) (hf : Instr.fill (apl sz) ((Array.range (len * sz)).map fun i => Z[i % Z.size]!) pv = some C') (hd : dstOk (some d) N = true) (hn : Nat.ble (nx + 1) GB = true)
    (h : SpL P N lo ops dr rest ⟨nx + 1, (d, .slice (some ⟨nx, 0, none⟩) len len) :: fr, (nx, some (.cells C' false true)) :: mem, ⟨[], [nx]⟩ :: lg⟩ K) : SpL P N lo ops dr (⟨some d, .buildSlice T len parts.toArray, ty, pos, af, none⟩ :: rest) ⟨nx, fr, mem, lg⟩ K :=
  SpL.make (v := fun n => .slice (some ⟨n, 0, none⟩) len len) (MakeOp.buildSlice (e := e) (b := b) (sz := sz) (Z := Z) hx hsmall hc hf) rfl (dstOut hd) hn h
theorem arr_app (k : IntKind) {w : Nat} (l l' : List (BitVec w)) : arr k l ++ arr k l' = arr k (l ++ l') := by simp [arr]
theorem arr_ext (k : IntKind) {w : Nat} (l : List (BitVec w)) (o m : Nat) : (arr k l).extract o (o + m) = arr k ((l.drop o).take m) := by
  simp [arr, List.map_drop, List.map_take, List.extract_eq_take_drop]
/-- Numbers onto numbers whose slice's capacity is not told. -/
theorem L.appU {T e by_ n n2 o2 len m cp2 w : Nat} {z : Value} {k : IntKind} {l l2 : List (BitVec w)} {opn2 rw2 : Bool} [TS P T e] [TI P e false 1] [TBy P e by_] [TZ P e #[z]] (hx : aeval fr x = some (.slice (some ⟨n, 0, none⟩) len (capU + 1))) (hy : aeval fr y = some (.slice (some ⟨n2, o2, none⟩) m cp2))
    (h1 : mfind mem n = some (.cells (arr k l) true true)) (h2 : mfind mem n2 = some (.cells (arr k l2) opn2 rw2)) (hl : l.length = len) (hl2 : o2 + m ≤ l2.length) (hne : Nat.beq n n2 = false) (hb : (len + m) * by_ ≤ 140737488355328) (h63 : len + m < 9223372036854775808) (hd : dstOk (some d) N = true) (hn : Nat.ble (nx + 1) GB = true) (hnn : Nat.ble (n + 1) nx = true)
    (h : SpL P N lo ops dr rest ⟨nx + 1, (d, .slice (some ⟨nx, 0, none⟩) (len + m) (capU + 1)) :: fr, (n, none) :: (nx, some (.cells (arr k (l ++ (l2.drop o2).take m)) true true)) :: mem, ⟨[n, n2], [n, nx]⟩ :: lg⟩ K) :
    SpL P N lo ops dr (⟨some d, .call { callee := .builtin .append, args := #[x, y], argTypes := #[T, T] }, ty, pos, af, none⟩ :: rest) ⟨nx, fr, mem, lg⟩ K := by
  have hne' : n ≠ n2 := fun e => by subst e; simp at hne
  have hnx := Nat.le_of_ble_eq_true hn
  have hnn' := Nat.le_of_ble_eq_true hnn
  have hop := LocalOp.appU (P := P) (fr := fr) (d := some d) (ty := ty) (pos := pos) (af := af) (g := none) (T := T) (e := e) (sz := 1) (b := false) (Z := #[z]) (by_ := by_) (k := nx) (C := arr k l) (C2 := arr k l2) (opn2 := opn2) hx hy (by rw [arr_size]; omega) (by rw [arr_size]; omega) hne' rfl (by omega) hb h63 (by omega)
  rw [Nat.mul_one, arr_ext, arr_app] at hop
  refine SpL.op (s := ⟨nx, fr, mem, lg⟩) (v := .slice (some ⟨nx, 0, none⟩) (len + m) (capU + 1)) (m' := [(n, none), (nx, some (.cells (arr k (l ++ (l2.drop o2).take m)) true true))]) (nx + 1) (OpOk.of_local hop ?_ rfl) (fun j b hb => ?_) (fun j hj => by simp at hj; subst hj; exact ⟨Nat.le_refl _, Nat.lt_succ_self _, hnx⟩) (Nat.le_succ _) (fun j hj => Nat.le_of_ble_eq_true (dstOut hd j hj)) h
  · rintro v' m' ⟨rfl, rfl⟩
    refine ⟨fun j b hb hrw => ?_, fun j b hb hrw => ?_⟩
    · rw [mfind_cons] at hb
      by_cases hj : n = j
      · subst hj; simp [mhas]
      · rw [if_neg hj, mfind_cons] at hb
        by_cases hj2 : n2 = j
        · rw [if_pos hj2] at hb; injection hb with hb; subst hb; cases hrw
        · rw [if_neg hj2] at hb; cases hb
    · rw [mfind_cons] at hb
      by_cases hj : n = j
      · rw [if_pos hj] at hb; cases hb
      · rw [if_neg hj, mfind_cons] at hb
        by_cases hj2 : nx = j
        · rw [if_pos hj2] at hb; injection hb with hb; subst hb; cases hrw
        · rw [if_neg hj2] at hb; cases hb
  · rw [mfind_cons] at hb
    by_cases hj : n = j
    · rw [if_pos hj] at hb; injection hb with hb; subst hb; subst hj; exact ⟨_, h1, .inl rfl⟩
    · rw [if_neg hj, mfind_cons] at hb
      by_cases hj2 : n2 = j
      · rw [if_pos hj2] at hb; injection hb with hb; subst hb; subst hj2; exact ⟨_, h2, .inr rfl⟩
      · rw [if_neg hj2] at hb; cases hb
theorem ro2 {n n2 : Nat} {C C2 : Array Value} {o o2 : Bool} : ∀ j b, mfind [(n, some (.cells C o false)), (n2, some (.cells C2 o2 false))] j = some b → b.rw = false := by
  intro j b hb
  rw [mfind_cons] at hb
  by_cases hj : n = j
  · rw [if_pos hj] at hb; injection hb with hb; subst hb; rfl
  · rw [if_neg hj, mfind_cons] at hb
    by_cases hj2 : n2 = j
    · rw [if_pos hj2] at hb; injection hb with hb; subst hb; rfl
    · rw [if_neg hj2] at hb; cases hb
theorem ro1 {n : Nat} {C : Array Value} {o : Bool} : ∀ j b, mfind [(n, some (.cells C o false))] j = some b → b.rw = false := by
  intro j b hb
  rw [mfind_cons] at hb
  by_cases hj : n = j
  · rw [if_pos hj] at hb; injection hb with hb; subst hb; rfl
  · rw [if_neg hj] at hb; cases hb
theorem Back.new {m0 : Mem} (hro : ∀ n b, mfind m0 n = some b → b.rw = false) (k : Nat) (C : Array Value) (o : Bool) : Back m0 [(k, some (.cells C o true))] := by
  refine ⟨(fun j b hb hrw => by rw [hro j b hb] at hrw; cases hrw), fun j b hb hrw => ?_⟩
  rw [mfind_cons] at hb
  by_cases hj : k = j
  · rw [if_pos hj] at hb; injection hb with hb; subst hb; cases hrw
  · rw [if_neg hj] at hb; cases hb
theorem Sub.one {n : Nat} {C : Array Value} {o r : Bool} (h1 : mfind mem n = some (.cells C o r)) : Sub [(n, some (.cells C o false))] mem := by
  intro j b hb
  rw [mfind_cons] at hb
  by_cases hj : n = j
  · rw [if_pos hj] at hb; injection hb with hb; subst hb; subst hj; exact ⟨_, h1, .inr rfl⟩
  · rw [if_neg hj] at hb; cases hb
theorem Sub.two {n n2 : Nat} {C C2 : Array Value} {o o2 r r2 : Bool} (h1 : mfind mem n = some (.cells C o r)) (h2 : mfind mem n2 = some (.cells C2 o2 r2)) : Sub [(n, some (.cells C o false)), (n2, some (.cells C2 o2 false))] mem := by
  intro j b hb
  rw [mfind_cons] at hb
  by_cases hj : n = j
  · rw [if_pos hj] at hb; injection hb with hb; subst hb; subst hj; exact ⟨_, h1, .inr rfl⟩
  · rw [if_neg hj] at hb; exact Sub.one h2 j b hb
/-- Numbers onto a slice without room. -/
theorem L.appG {T e by_ n o n2 o2 len cp m cp2 w : Nat} {z : Value} {k : IntKind} {l l2 : List (BitVec w)} {opn rw opn2 rw2 : Bool} [TS P T e] [TI P e false 1] [TBy P e by_] [TZ P e #[z]] (hx : aeval fr x = some (.slice (some ⟨n, o, none⟩) len cp)) (hy : aeval fr y = some (.slice (some ⟨n2, o2, none⟩) m cp2))
    (h1 : mfind mem n = some (.cells (arr k l) opn rw)) (h2 : mfind mem n2 = some (.cells (arr k l2) opn2 rw2)) (hl : o + len ≤ l.length) (hl2 : o2 + m ≤ l2.length) (hne : Nat.beq n n2 = false) (hcp : cp < capU) (hno : cp < len + m) (hb : (len + m) * by_ ≤ 140737488355328) (h63 : len + m < 9223372036854775808) (hd : dstOk (some d) N = true) (hn : Nat.ble (nx + 1) GB = true)
    (h : SpL P N lo ops dr rest ⟨nx + 1, (d, .slice (some ⟨nx, 0, none⟩) (len + m) (capU + 1)) :: fr, (nx, some (.cells (arr k ((l.drop o).take len ++ (l2.drop o2).take m)) true true)) :: mem, ⟨[n, n2], [nx]⟩ :: lg⟩ K) :
    SpL P N lo ops dr (⟨some d, .call { callee := .builtin .append, args := #[x, y], argTypes := #[T, T] }, ty, pos, af, none⟩ :: rest) ⟨nx, fr, mem, lg⟩ K := by
  have hne' : n ≠ n2 := fun e => by subst e; simp at hne
  have hnx := Nat.le_of_ble_eq_true hn
  have hop := LocalOp.appG (P := P) (fr := fr) (d := some d) (ty := ty) (pos := pos) (af := af) (g := none) (T := T) (e := e) (sz := 1) (b := false) (Z := #[z]) (by_ := by_) (m0 := [(n, some (.cells (arr k l) opn false)), (n2, some (.cells (arr k l2) opn2 false))]) ro2 hx hy (by rw [mfind_cons, if_pos rfl]) (by rw [mfind_cons, if_neg hne', mfind_cons, if_pos rfl]) (by rw [arr_size]; omega) (by rw [arr_size]; omega) hcp hno rfl (by omega) hb h63 nx
  rw [Nat.mul_one, Nat.mul_one, arr_ext, arr_ext, arr_app] at hop
  exact SpL.op (s := ⟨nx, fr, mem, lg⟩) (v := .slice (some ⟨nx, 0, none⟩) (len + m) (capU + 1)) (m' := [(nx, some (.cells (arr k ((l.drop o).take len ++ (l2.drop o2).take m)) true true))]) (nx + 1) (OpOk.of_local hop (by rintro v' m' ⟨rfl, rfl⟩; exact Back.new ro2 _ _ _) rfl) (Sub.two h1 h2) (fun j hj => by simp at hj; subst hj; exact ⟨Nat.le_refl _, Nat.lt_succ_self _, hnx⟩) (Nat.le_succ _) (fun j hj => Nat.le_of_ble_eq_true (dstOut hd j hj)) h
/-- Numbers onto an empty literal. -/
theorem L.appE {T e by_ n n2 o2 m cp2 w : Nat} {z : Value} {k : IntKind} {l2 : List (BitVec w)} {opn rw opn2 rw2 : Bool} [TS P T e] [TI P e false 1] [TBy P e by_] [TZ P e #[z]] (hx : aeval fr x = some (.slice (some ⟨n, 0, none⟩) 0 0)) (hy : aeval fr y = some (.slice (some ⟨n2, o2, none⟩) m cp2))
    (h1 : mfind mem n = some (.cells #[] opn rw)) (h2 : mfind mem n2 = some (.cells (arr k l2) opn2 rw2)) (hl2 : o2 + m ≤ l2.length) (hne : Nat.beq n n2 = false) (hm : 0 < m) (hb : m * by_ ≤ 140737488355328) (h63 : m < 9223372036854775808) (hd : dstOk (some d) N = true) (hn : Nat.ble (nx + 1) GB = true)
    (h : SpL P N lo ops dr rest ⟨nx + 1, (d, .slice (some ⟨nx, 0, none⟩) m (capU + 1)) :: fr, (nx, some (.cells (arr k ((l2.drop o2).take m)) true true)) :: mem, ⟨[n, n2], [nx]⟩ :: lg⟩ K) :
    SpL P N lo ops dr (⟨some d, .call { callee := .builtin .append, args := #[x, y], argTypes := #[T, T] }, ty, pos, af, none⟩ :: rest) ⟨nx, fr, mem, lg⟩ K := by
  have hz : #[] = arr k ([] : List (BitVec w)) := by simp [arr]
  rw [hz] at h1
  refine L.appG hx hy h1 h2 (by simp) hl2 hne (by decide) (by omega) (by simpa using hb) (by omega) hd hn ?_
  simpa using h
/-- Numbers onto nil. -/
theorem L.appNil {T e by_ n2 o2 m cp2 w : Nat} {z : Value} {k : IntKind} {l2 : List (BitVec w)} {opn2 rw2 : Bool} [TS P T e] [TI P e false 1] [TBy P e by_] [TZ P e #[z]] (hx : aeval fr x = some (.slice none 0 0)) (hy : aeval fr y = some (.slice (some ⟨n2, o2, none⟩) m cp2))
    (h2 : mfind mem n2 = some (.cells (arr k l2) opn2 rw2)) (hl2 : o2 + m ≤ l2.length) (hm : 0 < m) (hb : m * by_ ≤ 140737488355328) (h63 : m < 9223372036854775808) (hd : dstOk (some d) N = true) (hn : Nat.ble (nx + 1) GB = true)
    (h : SpL P N lo ops dr rest ⟨nx + 1, (d, .slice (some ⟨nx, 0, none⟩) m (capU + 1)) :: fr, (nx, some (.cells (arr k ((l2.drop o2).take m)) true true)) :: mem, ⟨[n2], [nx]⟩ :: lg⟩ K) :
    SpL P N lo ops dr (⟨some d, .call { callee := .builtin .append, args := #[x, y], argTypes := #[T, T] }, ty, pos, af, none⟩ :: rest) ⟨nx, fr, mem, lg⟩ K := by
  have hnx := Nat.le_of_ble_eq_true hn
  have hop := LocalOp.appNil (P := P) (fr := fr) (d := some d) (ty := ty) (pos := pos) (af := af) (g := none) (T := T) (e := e) (sz := 1) (b := false) (Z := #[z]) (by_ := by_) (m0 := [(n2, some (.cells (arr k l2) opn2 false))]) ro1 hx hy (by rw [mfind_cons, if_pos rfl]) (by rw [arr_size]; omega) hm rfl (by omega) hb h63 nx
  rw [Nat.mul_one, arr_ext] at hop
  exact SpL.op (s := ⟨nx, fr, mem, lg⟩) (v := .slice (some ⟨nx, 0, none⟩) m (capU + 1)) (m' := [(nx, some (.cells (arr k ((l2.drop o2).take m)) true true))]) (nx + 1) (OpOk.of_local hop (by rintro v' m' ⟨rfl, rfl⟩; exact Back.new ro1 _ _ _) rfl) (Sub.one h2) (fun j hj => by simp at hj; subst hj; exact ⟨Nat.le_refl _, Nat.lt_succ_self _, hnx⟩) (Nat.le_succ _) (fun j hj => Nat.le_of_ble_eq_true (dstOut hd j hj)) h
theorem L.appNilE {T e sz n2 o2 c2 : Nat} {b : Bool} [TS P T e] [TI P e b sz] (hx : aeval fr x = some (.slice none 0 0)) (hy : aeval fr y = some (.slice (some ⟨n2, o2, none⟩) 0 c2)) (hd : dstOk (some d) N = true)
    (h : SpL P N lo ops dr rest ⟨nx, (d, .slice none 0 0) :: fr, mem, ⟨[], []⟩ :: lg⟩ K) : SpL P N lo ops dr (⟨some d, .call { callee := .builtin .append, args := #[x, y], argTypes := #[T, T] }, ty, pos, af, none⟩ :: rest) ⟨nx, fr, mem, lg⟩ K :=
  SpL.pure (PureOp.appNilE (e := e) (b := b) (sz := sz) hx hy) rfl (dstOut hd) h
theorem L.appNil0 {T e sz c2 : Nat} {b : Bool} [TS P T e] [TI P e b sz] (hx : aeval fr x = some (.slice none 0 0)) (hy : aeval fr y = some (.slice none 0 c2)) (hd : dstOk (some d) N = true)
    (h : SpL P N lo ops dr rest ⟨nx, (d, .slice none 0 0) :: fr, mem, ⟨[], []⟩ :: lg⟩ K) : SpL P N lo ops dr (⟨some d, .call { callee := .builtin .append, args := #[x, y], argTypes := #[T, T] }, ty, pos, af, none⟩ :: rest) ⟨nx, fr, mem, lg⟩ K :=
  SpL.pure (PureOp.appNil0 (e := e) (b := b) (sz := sz) hx hy) rfl (dstOut hd) h
/-- Nothing is appended. -/
theorem PureOp.appZ {d : Option Tmp} {T e sz n o len cp : Nat} {b : Bool} {g : Option (Nat × Bool)} [TS P T e] [TI P e b sz] (hx : aeval fr x = some (.slice (some ⟨n, o, none⟩) len cp)) (hcp : cp < capU) (hle : len ≤ cp) (hy : (∃ c2, aeval fr y = some (.slice none 0 c2)) ∨ ∃ n2 o2 c2, aeval fr y = some (.slice (some ⟨n2, o2, none⟩) 0 c2)) :
    PureOp P ⟨d, .call { callee := .builtin .append, args := #[x, y], argTypes := #[T, T] }, ty, pos, af, g⟩ fr (.slice (some ⟨n, o, none⟩) len cp) := by
  intro E a w hev
  obtain ⟨l, hl, e1⟩ := hev x (by simp [Op.operands, Call.operands]) _ hx
  rw [capOf_lt hcp] at e1
  have hs : (sizeOf e).run P w = .ok sz w := by
    have h := TI.sz (P := P) (t := e) (agg := b) (sz := sz)
    cases hq : P.info? e with
    | none => simp [hq] at h
    | some inf => have : inf.size = sz := by simpa [hq] using h
                  simp [sizeOf, typeInfo, hq, this]
  refine ⟨.slice (some ⟨l.blk, l.base + o, none⟩) len cp, ?_, l, hl, by rw [capOf_lt hcp]⟩
  rw [exec_append, e1]
  rcases hy with ⟨c2, hy⟩ | ⟨n2, o2, c2, hy⟩
  · have e2 : a.eval y = .slice none 0 c2 := hev y (by simp [Op.operands, Call.operands]) _ hy
    rw [e2]
    simp [Builtin.append_, run_underlying (TS.un (P := P) (t := T) (e := e)), hs, Builtin.lenOf, Builtin.firstCells, hle, storeCells]
  · obtain ⟨l2, hl2, e2⟩ := hev y (by simp [Op.operands, Call.operands]) _ hy
    rw [e2]
    simp [Builtin.append_, run_underlying (TS.un (P := P) (t := T) (e := e)), hs, Builtin.lenOf, Builtin.firstCells, hle, storeCells, loadCells, loadCellsFrom]
theorem L.appZ {T e sz n o len cp : Nat} {b : Bool} [TS P T e] [TI P e b sz] (hx : aeval fr x = some (.slice (some ⟨n, o, none⟩) len cp)) (hcp : cp < capU) (hle : len ≤ cp) (hy : (∃ c2, aeval fr y = some (.slice none 0 c2)) ∨ ∃ n2 o2 c2, aeval fr y = some (.slice (some ⟨n2, o2, none⟩) 0 c2)) (hd : dstOk (some d) N = true)
    (h : SpL P N lo ops dr rest ⟨nx, (d, .slice (some ⟨n, o, none⟩) len cp) :: fr, mem, ⟨[], []⟩ :: lg⟩ K) : SpL P N lo ops dr (⟨some d, .call { callee := .builtin .append, args := #[x, y], argTypes := #[T, T] }, ty, pos, af, none⟩ :: rest) ⟨nx, fr, mem, lg⟩ K :=
  SpL.pure (PureOp.appZ (e := e) (b := b) (sz := sz) hx hcp hle hy) rfl (dstOut hd) h
class TStr (P : Program) (t : TypeId) : Prop where
  un : P.underlying t = some .string
/-- Bytes as a string. -/
theorem L.str {A B e n o len cp : Nat} [TS P A e] [TK P e .u8] [TStr P B] {l : List (BitVec 8)} {opn rw : Bool} (hx : aeval fr x = some (.slice (some ⟨n, o, none⟩) len cp)) (hm : mfind mem n = some (.cells (arr .u8 l) opn rw)) (hle : o + len ≤ l.length) (hd : dstOk (some d) N = true)
    (h : SpL P N lo ops dr rest ⟨nx, (d, .string (str ((l.drop o).take len))) :: fr, mem, ⟨[n], []⟩ :: lg⟩ K) : SpL P N lo ops dr (⟨some d, .convert A B x, ty, pos, af, none⟩ :: rest) ⟨nx, fr, mem, lg⟩ K :=
  SpL.read (fun rw => ReadOp.str (e := e) (TStr.un (P := P) (t := B)) hx hle) hm rfl (dstOut hd) h
theorem L.strNil {A B e c : Nat} [TS P A e] [TK P e .u8] [TStr P B] (hx : aeval fr x = some (.slice none 0 c)) (hd : dstOk (some d) N = true)
    (h : SpL P N lo ops dr rest ⟨nx, (d, .string (Mem.str [])) :: fr, mem, ⟨[], []⟩ :: lg⟩ K) : SpL P N lo ops dr (⟨some d, .convert A B x, ty, pos, af, none⟩ :: rest) ⟨nx, fr, mem, lg⟩ K :=
  SpL.pure (PureOp.strNil (e := e) (TStr.un (P := P) (t := B)) hx) rfl (dstOut hd) h
def strCmp (op : BinOp) (a b : ByteArray) : Option Bool := match op with
  | .eql => some (a.toList == b.toList)
  | .neq => some (!(a.toList == b.toList))
  | .lss => some (Op.bytesLess a.toList b.toList)
  | _ => none
theorem L.cmpS {op : BinOp} {T T' : TypeId} {m n : ByteArray} {r : Bool} (hx : aeval fr x = some (.string m)) (hy : aeval fr y = some (.string n)) (hr : strCmp op m n = some r) (hd : dstOk (some d) N = true)
    (h : SpL P N lo ops dr rest ⟨nx, (d, .bool r) :: fr, mem, ⟨[], []⟩ :: lg⟩ K) : SpL P N lo ops dr (⟨some d, .binOp op T x y T', ty, pos, af, none⟩ :: rest) ⟨nx, fr, mem, lg⟩ K := by
  refine SpL.pure (PureOp.binS (T' := T') hx hy (r := r) ?_ ?_) rfl (dstOut hd) h
  · cases op <;> simp only [strCmp] at hr <;> first
      | (injection hr with hr; subst hr; rfl)
      | cases hr
  · cases op <;> simp only [strCmp] at hr <;> first | (cases hr; done) | (constructor <;> (intro h; cases h))
class EqT (P : Program) (t e : TypeId) : Prop where
  cells : P.cellsOf e = 1
  guard : P.eqGuardType P.depth t = false
def arrCmp {w : Nat} (op : BinOp) (a b : List (BitVec w)) : Option Bool := match op with
  | .eql => some (a == b)
  | .neq => some (!(a == b))
  | _ => none
theorem L.eqArr {op : BinOp} {T T' e len w : Nat} {k ke : IntKind} [TA P T len e] [TI P e false 1] [TK P e ke] [EqT P T e] {l l' : List (BitVec w)} {r : Bool} (hx : aeval fr x = some (.agg (arr k l))) (hy : aeval fr y = some (.agg (arr k l'))) (hl : l.length = len) (hl' : l'.length = len) (hr : arrCmp op l l' = some r) (hd : dstOk (some d) N = true)
    (h : SpL P N lo ops dr rest ⟨nx, (d, .bool r) :: fr, mem, ⟨[], []⟩ :: lg⟩ K) : SpL P N lo ops dr (⟨some d, .binOp op T x y T', ty, pos, af, none⟩ :: rest) ⟨nx, fr, mem, lg⟩ K := by
  refine SpL.pure (PureOp.eqArr (e := e) (ke := ke) (T' := T') hx hy hl hl' (EqT.cells (P := P) (t := T) (e := e)) (EqT.guard (P := P) (t := T) (e := e)) ?_) rfl (dstOut hd) h
  cases op <;> simp only [arrCmp] at hr <;> first
    | (injection hr with hr; subst hr; simp)
    | cases hr
/-- A guarded operation whose guard is met is one without a guard. -/
theorem L.met {o : Oper} {j : Nat} {b : Bool} {t : Tmp} (hg : o.guard = some (j, b)) (hj : (ops[j]?).bind (·.dst) = some t) (ht : look fr t = some (.bool b)) (h : SpL P N lo ops dr ({ o with guard := none } :: rest) ⟨nx, fr, mem, lg⟩ K) : SpL P N lo ops dr (o :: rest) ⟨nx, fr, mem, lg⟩ K := by
  have key : ∀ {m0 : Mem} {new : List Nat} {Ko : Value → Mem → Prop}, OpOk P ops { o with guard := none } ⟨fr, m0, new⟩ Ko → OpOk P ops o ⟨fr, m0, new⟩ Ko := by
    intro m0 new Ko hop
    refine ⟨fun E a w hfr hrep hnew next Q hnext => ?_, hop.back⟩
    have hl : t ∈ o.looksAt ops := List.mem_append_right _ (by simp [hg, hj])
    obtain ⟨u, hu, hr⟩ := hfr t hl _ ht
    rw [show u = _ from hr] at hu
    rw [if_pos (by simp [Region.wanted, hg, yielded, hj, hu])]
    have := hop.run E a w (fun t' ht' v hv => hfr t' (by
      rcases List.mem_append.1 ht' with h1 | h1
      · exact List.mem_append_left _ h1
      · simp at h1) v hv) hrep hnew next Q hnext
    rw [if_pos (by simp [Region.wanted])] at this
    exact this
  cases h with
  | op nx' hop hsub hnew hnx hd h => exact SpL.op nx' (key hop) hsub hnew hnx hd h
  | opN nx' hdr hop hsub hnew hnx hd h => exact SpL.opN nx' hdr (key hop) hsub hnew hnx hd h
theorem L.unmet {op : Op} {j : Nat} {b : Bool} {t : Tmp} {d' : Option Tmp} (hj : (ops[j]?).bind (·.dst) = some t) (ht : look fr t = some (.bool (!b)) ∨ look fr t = some undef) (hd : dstOk d' N = true)
    (h : SpL P N lo ops dr rest ⟨nx, putF fr d' undef, mem, ⟨[], []⟩ :: lg⟩ K) : SpL P N lo ops dr (⟨d', op, ty, pos, af, some (j, b)⟩ :: rest) ⟨nx, fr, mem, lg⟩ K := by
  obtain ⟨v, hv, hv2⟩ : ∃ v, look fr t = some v ∧ (v = .bool (!b) ∨ v = undef) := by
    rcases ht with ht | ht
    · exact ⟨_, ht, .inl rfl⟩
    · exact ⟨_, ht, .inr rfl⟩
  exact SpL.op (s := ⟨nx, fr, mem, lg⟩) (v := undef) (m0 := []) (m' := []) (new := []) nx (OpOk.of_unmet rfl hj hv hv2) (fun n b h => by cases h) (fun n h => by cases h) (Nat.le_refl _) (fun k hk => Nat.le_of_ble_eq_true (dstOut hd k hk)) h
theorem PureOp.pick {d : Option Tmp} {c x y : Operand} {b : Bool} {v : Value} {g : Option (Nat × Bool)} (hc : aeval fr c = some (.bool b)) (hv : aeval fr (bif b then x else y) = some v) : PureOp P ⟨d, .pick c x y, ty, pos, af, g⟩ fr v := by
  intro E a w hev
  have e1 := R3_bool (hev c (by simp [Op.operands]) _ hc)
  cases b
  · exact ⟨a.eval y, by unfold execOp; simp [e1, asBool], hev y (by simp [Op.operands]) _ hv⟩
  · exact ⟨a.eval x, by unfold execOp; simp [e1, asBool], hev x (by simp [Op.operands]) _ hv⟩
theorem L.pick {c : Operand} {b : Bool} (hc : aeval fr c = some (.bool b)) (hv : aeval fr (bif b then x else y) = some v) (hd : dstOk (some d) N = true)
    (h : SpL P N lo ops dr rest ⟨nx, (d, v) :: fr, mem, ⟨[], []⟩ :: lg⟩ K) : SpL P N lo ops dr (⟨some d, .pick c x y, ty, pos, af, none⟩ :: rest) ⟨nx, fr, mem, lg⟩ K :=
  SpL.pure (PureOp.pick hc hv) rfl (dstOut hd) h
theorem L.loadL {t : TypeId} {n o sz : Nat} {l : List Value} {opn rw : Bool} [TI P t false sz] (hx : aeval fr x = some (.pointer (some ⟨n, o, none⟩))) (hm : mfind mem n = some (.cells l.toArray opn rw)) (hv : l[o]? = some v) (hd : dstOk (some d) N = true)
    (h : SpL P N lo ops dr rest ⟨nx, (d, v) :: fr, mem, ⟨[n], []⟩ :: lg⟩ K) : SpL P N lo ops dr (⟨some d, .load t x, ty, pos, af, none⟩ :: rest) ⟨nx, fr, mem, lg⟩ K :=
  L.load hx hm (by simpa using hv) hd h
/-- Division of numbers of a fixed width. -/
theorem L.quoB {a b : BitVec 64} {T T' : TypeId} (hx : aeval fr x = some (.int .u64 (nb a))) (hy : aeval fr y = some (.int .u64 (nb b))) (hb : 0 < b.toNat) (hd : dstOk (some d) N = true)
    (h : SpL P N lo ops dr rest ⟨nx, (d, .int .u64 (nb (a / b))) :: fr, mem, ⟨[], []⟩ :: lg⟩ K) : SpL P N lo ops dr (⟨some d, .binOp .quo T x y T', ty, pos, af, none⟩ :: rest) ⟨nx, fr, mem, lg⟩ K := by
  refine SpL.pure (PureOp.bin (T' := T') hx hy (v := .int .u64 (nb (a / b))) ?_ (fun _ => rfl)) rfl (dstOut hd) h
  have h' : binOp .quo T (.int .u64 (nb a)) (.int .u64 (nb b)) = Op.intDiv .quo .u64 (nb a) (nb b) := by simp [binOp]
  rw [h']
  simp only [Op.intDiv]
  rw [if_neg (by unfold nb; omega)]
  have hq : (nb a).tdiv (nb b) = nb (a / b) := by
    unfold nb
    rw [← Int.ofNat_tdiv, BitVec.toNat_udiv]
  rw [hq, wrap_nb_u64]
def mmB (op : Builtin) (a b : Nat) : Option Nat := match op with
  | .min => some (min a b)
  | .max => some (max a b)
  | _ => none
theorem L.minmax {op : Builtin} {a b r : Nat} {k : IntKind} {T T' : TypeId} (hx : aeval fr x = some (.int k (a : Int))) (hy : aeval fr y = some (.int k (b : Int))) (hr : mmB op a b = some r) (hd : dstOk (some d) N = true)
    (h : SpL P N lo ops dr rest ⟨nx, (d, .int k (r : Int)) :: fr, mem, ⟨[], []⟩ :: lg⟩ K) : SpL P N lo ops dr (⟨some d, .call { callee := .builtin op, args := #[x, y], argTypes := #[T, T'] }, ty, pos, af, none⟩ :: rest) ⟨nx, fr, mem, lg⟩ K := by
  refine SpL.pure (v := .int k (r : Int)) (fun E A w hev => ?_) rfl (dstOut hd) h
  have e1 := R3_int (hev x (by simp [Op.operands, Call.operands]) _ hx)
  have e2 := R3_int (hev y (by simp [Op.operands, Call.operands]) _ hy)
  refine ⟨.int k (r : Int), ?_, rfl⟩
  cases op <;> simp only [mmB] at hr <;> first
    | (injection hr with hr
       subst hr
       unfold execOp
       simp [resolve, invoke, builtin, Builtin.min_, Builtin.max_, Builtin.min2, Builtin.max2, e1, e2]
       first | (split <;> simp <;> omega) | omega)
    | cases hr
/-- A slice as long as its block may be told as one whose capacity is the block's. -/
theorem Sp.retell {P : Program} {N lo nx : Nat} {fr : Fr} {mem : Mem} {lg : List Foot} {K : Exit → St → Prop} {c : Code} {t : Tmp} {n len cp sz : Nat} {C : Array Value} {rw : Bool} (ht : look fr t = some (.slice (some ⟨n, 0, none⟩) len cp)) (hm : mfind mem n = some (.cells C false rw)) (hC : C.size = cp * sz) (hsz : 0 < sz) (hcp : cp < capU)
    (h : Sp P N lo c ⟨nx, (t, .slice (some ⟨n, 0, none⟩) len (capU + sz)) :: fr, (n, some (.cells C true rw)) :: mem, lg⟩ K) : Sp P N lo c ⟨nx, fr, mem, lg⟩ K := by
  refine ⟨fun E a w hs Q hQ => ?_⟩
  obtain ⟨l, hl, hB⟩ := hs.rep.at_ n _ hm
  obtain ⟨D, t', fz, ho, h1, h2, h3, h4, h5⟩ := hB
  have htop : l.top = cp * sz := by rw [← h3 rfl, hC]
  have hfind : ∀ j b, mfind ((n, some (.cells C true rw)) :: mem) j = some b → ∃ b0, mfind mem j = some b0 ∧ b.rw = b0.rw ∧ ∀ l o, BRep E l o b0 → BRep E l o b := by
    intro j b hb
    rw [mfind_cons] at hb
    by_cases hj : n = j
    · rw [if_pos hj] at hb; injection hb with hb; subst hb; subst hj
      refine ⟨_, hm, rfl, fun l o hB => ?_⟩
      obtain ⟨D, t', fz, ho, h1, h2, h3, h4, h5⟩ := hB
      exact ⟨D, t', fz, ho, h1, h2, (fun h => by cases h), h4, h5⟩
    · rw [if_neg hj] at hb; exact ⟨b, hb, rfl, fun _ _ h => h⟩
  have hs' : SRep N lo E ⟨nx, (t, .slice (some ⟨n, 0, none⟩) len (capU + sz)) :: fr, (n, some (.cells C true rw)) :: mem, lg⟩ a w := by
    refine ⟨hs.low, hs.size, hs.defers, fun k v hv => ?_, ⟨⟨fun j b hb => ?_, ?_, hs.rep.glob⟩, fun g C hg => ⟨(hs.rep.tab g C hg).1, fun ho => (hs.rep.tab g C hg).2 ?_⟩⟩, hs.fresh⟩
    · simp only at hv
      rw [look_cons] at hv
      by_cases hk : t = k
      · rw [if_pos hk] at hv; injection hv with hv; subst hv; subst hk
        obtain ⟨u, hu, l', hl', rfl⟩ := hs.fr t _ ht
        rw [hl] at hl'; injection hl' with hl'; subst hl'
        refine ⟨_, hu, l, hl, ?_⟩
        congr 1
        rw [capOf_lt hcp]
        unfold capOf
        rw [if_pos (by omega), htop]
        simp [Nat.mul_div_cancel _ hsz]
      · rw [if_neg hk] at hv; exact hs.fr k v hv
    · obtain ⟨b0, g1, g2, g3⟩ := hfind j b hb
      obtain ⟨lj, hlj, hBj⟩ := hs.rep.at_ j b0 g1
      exact ⟨lj, hlj, g3 _ _ hBj⟩
    · intro j b j' b' lj lj' g1 g2 hrw
      obtain ⟨b0, k1, k2, _⟩ := hfind j b g1
      obtain ⟨b0', k1', k2', _⟩ := hfind j' b' g2
      exact hs.rep.far j b0 j' b0' lj lj' k1 k1' (by rw [← k2]; exact hrw)
    · obtain ⟨j, b, lj, g1, g2, g3, g4⟩ := ho
      obtain ⟨b0, k1, k2, _⟩ := hfind j b g1
      exact ⟨j, b0, lj, k1, by rw [← k2]; exact g2, g3, g4⟩
  refine h.run E a w hs' Q fun e E' s' a' w' hk hs2 hst => hQ e E' s' a' w' hk hs2 ⟨hst.agree, hst.kept.os, hst.kept.tape, hst.kept.output, hst.kept.size, fun x hx ho => hst.kept.keep x hx fun h => ho ?_⟩
  obtain ⟨j, b, lj, g1, g2, g3, g4⟩ := h
  obtain ⟨b0, k1, k2, _⟩ := hfind j b g1
  exact ⟨j, b0, lj, k1, by rw [← k2]; exact g2, g3, g4⟩
end
end Go.Proofs.YtbfakdpnefhgkaaDoor.Sl
