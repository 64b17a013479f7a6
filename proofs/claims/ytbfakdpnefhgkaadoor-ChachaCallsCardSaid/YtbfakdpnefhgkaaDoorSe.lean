/-
  The laws of operations that make or write memory, in the logic of named memory; results that lie in cells. Plain lemmas, over any program.
-/
import Derived.Test.YtbfakdpnefhgkaaDoorSd
set_option linter.unusedSimpArgs false
set_option linter.unusedVariables false
namespace Go.Proofs.YtbfakdpnefhgkaaDoor.Sl
open Go Go.RowKit Bv Mem
/-- The table with one name more. -/
def Env.plus (E : Env) (n : Nat) (l : Loc) : Env := fun k => if k = n then some l else E k
theorem Env.plus_le {E : Env} {n : Nat} (l : Loc) (h : E n = none) : Env.le E (E.plus n l) := by
  intro k x hk
  unfold Env.plus
  by_cases e : k = n
  · subst e; rw [h] at hk; cases hk
  · rw [if_neg e]; exact hk
theorem Env.plus_at (E : Env) (n : Nat) (l : Loc) : E.plus n l n = some l := if_pos rfl
theorem Env.plus_ne {E : Env} {n k : Nat} {l : Loc} (h : k ≠ n) : E.plus n l k = E k := if_neg h
/-- An operation that makes a block of cells of its own. -/
def MakeOp (P : Program) (o : Oper) (fr : Fr) (C : Array Value) (opn : Bool) (v : Nat → Value) : Prop :=
  ∀ E a w, Ev o.op fr E a → ∃ t D W u, (execOp a.eval o).run P w = .ok (.value u) W ∧ W.heap = w.heap.push (.cells D t) ∧ W.os = w.os ∧ W.tape = w.tape ∧ W.output = w.output ∧ C.size ≤ D.size ∧ (opn = false → C.size = D.size) ∧
    (∀ (i : Nat) x, C[i]? = some x → ∃ y, D[i]? = some y ∧ R1 E x y) ∧ ∀ E' n, Env.le E E' → E' n = some ⟨w.heap.size, 0, D.size⟩ → R3 E' (v n) u
theorem heap_push_lt {w W : World} {o : Obj} (h : W.heap = w.heap.push o) {k : Nat} (hk : k < w.heap.size) : W.heap[k]? = w.heap[k]? := by
  rw [h, Array.getElem?_push, if_neg (by omega)]
theorem heap_push_at {w W : World} {o : Obj} (h : W.heap = w.heap.push o) : W.heap[w.heap.size]? = some o := by
  rw [h]; simp
theorem MakeOp.local {P : Program} {o : Oper} {fr : Fr} {C : Array Value} {opn : Bool} {v : Nat → Value} (h : MakeOp P o fr C opn v) (n : Nat) : LocalOp P o fr [] [n] (fun v' m' => v' = v n ∧ m' = [(n, some (.cells C opn true))]) := by
  intro E a w hev hrep hfresh next Q hnext
  obtain ⟨t, D, W, u, hrun, hheap, hos, htape, hout, hsz, hopn, hC, hv⟩ := h E a w hev
  have hn := hfresh n (by simp)
  have hle := Env.plus_le (E := E) ⟨w.heap.size, 0, D.size⟩ hn.1
  unfold Oper.wp
  rw [hrun]
  refine hnext (E.plus n ⟨w.heap.size, 0, D.size⟩) _ u _ W ⟨rfl, rfl⟩ hle (fun k hk => Env.plus_ne (by simpa using hk)) (hv _ n hle (Env.plus_at _ _ _)) ⟨fun k b hb => ?_, ?_, fun g l hg hl => ?_⟩ ⟨hos, htape, hout, ?_, fun x hx ho => ⟨heap_push_lt hheap hx, ?_⟩⟩
  · rw [mfind_cons] at hb
    by_cases hk : n = k
    · rw [if_pos hk] at hb; injection hb with hb; subst hb; subst hk
      refine ⟨_, Env.plus_at _ _ _, D, t, (0, 0), heap_push_at hheap, by simp, hsz, hopn, fun _ => thaw0 _, fun i x hx => ?_⟩
      obtain ⟨y, hy, hr⟩ := hC i x hx
      exact ⟨y, by simpa using hy, hr.le hle⟩
    · rw [if_neg hk] at hb; cases hb
  · intro k b k' b' l l' h1 h2
    rw [mfind_cons] at h1 h2
    by_cases hk : n = k
    · by_cases hk' : n = k'
      · intros; omega
      · rw [if_neg hk'] at h2; cases h2
    · rw [if_neg hk] at h1; cases h1
  · by_cases hk : g = n
    · subst hk; have := hn.2; omega
    · rw [Env.plus_ne hk] at hl; exact hrep.glob g l hg hl
  · rw [hheap]; simp
  · rintro ⟨k, b, l, h1, h2, h3, h4⟩
    rw [mfind_cons] at h1
    by_cases hk : n = k
    · subst hk
      rw [Env.plus_at] at h3
      injection h3 with h3
      subst h3
      simp at h4
      omega
    · rw [if_neg hk] at h1; cases h1
/-- An operation that writes a block: its cells turned. -/
def WriteOp (P : Program) (o : Oper) (fr : Fr) (n : Nat) (C : Array Value) (opn : Bool) (C' : Array Value) (v : Value) : Prop :=
  ∀ E a w l D t fz, Ev o.op fr E a → E n = some l → w.heap[l.blk]? = some (.cells D t fz) → Thaw fz D.size → l.base + l.top = D.size → C.size ≤ l.top → (∀ (i : Nat) x, C[i]? = some x → ∃ y, D[l.base + i]? = some y ∧ R1 E x y) →
    ∃ D' W, ((∃ u, (execOp a.eval o).run P w = .ok (.value u) W ∧ R3 E v u) ∨ ((execOp a.eval o).run P w = .ok .skip W ∧ v = undef)) ∧ W.heap.size = w.heap.size ∧ W.heap[l.blk]? = some (.cells D' t fz) ∧ D'.size = D.size ∧ (∀ k, k ≠ l.blk → W.heap[k]? = w.heap[k]?) ∧
      W.os = w.os ∧ W.tape = w.tape ∧ W.output = w.output ∧ C'.size = C.size ∧ ∀ (i : Nat) x, C'[i]? = some x → ∃ y, D'[l.base + i]? = some y ∧ R1 E x y
theorem WriteOp.local {P : Program} {o : Oper} {fr : Fr} {n : Nat} {C C' : Array Value} {opn : Bool} {v : Value} (h : WriteOp P o fr n C opn C' v) :
    LocalOp P o fr [(n, some (.cells C opn true))] [] (fun v' m' => v' = v ∧ m' = [(n, some (.cells C' opn true))]) := by
  intro E a w hev hrep _ next Q hnext
  obtain ⟨l, hl, hB⟩ := hrep.at_ n (.cells C opn true) (by simp [mfind])
  obtain ⟨D, t, fz, ho, h1, h2, h3, h4, h5⟩ := hB
  obtain ⟨D', W, hrun, hsz, hD', hDs, hoth, hos, htape, hout, hCs, hC'⟩ := h E a w l D t fz hev hl ho (h4 rfl) h1 h2 h5
  have hrep' : Rep0 E [(n, some (.cells C' opn true))] W := by
    refine ⟨fun k b hb => ?_, ?_, hrep.glob⟩
    · rw [mfind_cons] at hb
      by_cases hk : n = k
      · rw [if_pos hk] at hb; injection hb with hb; subst hb; subst hk
        exact ⟨l, hl, D', t, fz, hD', by omega, by omega, fun h => by rw [hCs]; exact h3 h, fun _ => by rw [hDs]; exact h4 rfl, hC'⟩
      · rw [if_neg hk] at hb; cases hb
    · intro k b k' b' _ _ h1 h2
      rw [mfind_cons] at h1 h2
      by_cases hk : n = k
      · by_cases hk' : n = k'
        · intros; omega
        · rw [if_neg hk'] at h2; cases h2
      · rw [if_neg hk] at h1; cases h1
  have hkept : Kept E [(n, some (.cells C opn true))] w E [(n, some (.cells C' opn true))] W := by
    refine ⟨hos, htape, hout, by omega, fun x hx ho' => ⟨hoth x ?_, ?_⟩⟩
    · rintro rfl; exact ho' ⟨n, .cells C opn true, l, by simp [mfind], rfl, hl, rfl⟩
    · rintro ⟨k, b, l2, g1, g2, g3, g4⟩
      rw [mfind_cons] at g1
      by_cases hk : n = k
      · subst hk; exact ho' ⟨n, .cells C opn true, l2, by simp [mfind], rfl, g3, g4⟩
      · rw [if_neg hk] at g1; cases g1
  unfold Oper.wp
  rcases hrun with ⟨u, hu, hr⟩ | ⟨hu, rfl⟩
  · rw [hu]; exact hnext E v u _ W ⟨rfl, rfl⟩ (Env.le.refl E) (fun _ _ => rfl) hr hrep' hkept
  · rw [hu]; exact hnext E undef undef _ W ⟨rfl, rfl⟩ (Env.le.refl E) (fun _ _ => rfl) (R3_undef E) hrep' hkept
section
variable {P : Program} {N lo : Nat} {s : St} {K : St → Prop} {ops : Array Oper} {rest : List Oper} {dr : Bool}
theorem SpL.make {o : Oper} {C : Array Value} {opn : Bool} {v : Nat → Value} (hp : MakeOp P o s.fr C opn v) (hg : o.guard = none) (hd : ∀ d, o.dst = some d → Nat.ble (d + 1) N = true) (hnx : Nat.ble (s.nx + 1) GB = true)
    (h : SpL P N lo ops dr rest ⟨s.nx + 1, putF s.fr o.dst (v s.nx), (s.nx, some (.cells C opn true)) :: s.m, ⟨[], [s.nx]⟩ :: s.log⟩ K) : SpL P N lo ops dr (o :: rest) s K := by
  have hn : s.nx < GB := Nat.le_of_ble_eq_true hnx
  refine SpL.op (v := v s.nx) (m0 := []) (m' := [(s.nx, some (.cells C opn true))]) (new := [s.nx]) (s.nx + 1) (OpOk.of_local (hp.local s.nx) ?_ hg) (fun n b h => by cases h) (fun n h => by simp at h; subst h; exact ⟨Nat.le_refl _, Nat.lt_succ_self _, hn⟩) (Nat.le_succ _) (fun d h => Nat.le_of_ble_eq_true (hd d h)) h
  rintro v' m' ⟨rfl, rfl⟩
  refine ⟨(fun n b h => by cases h), fun n b h hrw => ?_⟩
  rw [mfind_cons] at h
  by_cases hk : s.nx = n
  · rw [if_pos hk] at h; injection h with h; subst h; cases hrw
  · rw [if_neg hk] at h; cases h
theorem SpL.write {o : Oper} {n : Nat} {C C' : Array Value} {opn : Bool} {v : Value} (hp : WriteOp P o s.fr n C opn C' v) (hm : mfind s.m n = some (.cells C opn true)) (hg : o.guard = none) (hd : ∀ d, o.dst = some d → Nat.ble (d + 1) N = true)
    (h : SpL P N lo ops dr rest ⟨s.nx, putF s.fr o.dst v, (n, some (.cells C' opn true)) :: s.m, ⟨[n], [n]⟩ :: s.log⟩ K) : SpL P N lo ops dr (o :: rest) s K := by
  refine SpL.op (v := v) (m0 := [(n, some (.cells C opn true))]) (m' := [(n, some (.cells C' opn true))]) (new := []) s.nx (OpOk.of_local hp.local ?_ hg) (fun k b h => ?_) (fun n h => by cases h) (Nat.le_refl _) (fun d h => Nat.le_of_ble_eq_true (hd d h)) h
  · rintro v' m' ⟨rfl, rfl⟩
    refine ⟨fun k b h hrw => ?_, fun k b h hrw => ?_⟩
    · rw [mfind_cons] at h
      by_cases hk : n = k
      · subst hk; simp [mhas]
      · rw [if_neg hk] at h; cases h
    · rw [mfind_cons] at h
      by_cases hk : n = k
      · rw [if_pos hk] at h; injection h with h; subst h; cases hrw
      · rw [if_neg hk] at h; cases h
  · rw [mfind_cons] at h
    by_cases hk : n = k
    · rw [if_pos hk] at h; injection h with h; subst h; subst hk; exact ⟨_, hm, .inl rfl⟩
    · rw [if_neg hk] at h; cases h
end
section
variable {P : Program} {fr : Fr}
/-- A zero value told. -/
theorem run_zero {t : TypeId} {z : Value} (h : (P.info? t).bind (·.zero) = some z) (w : World) : (zeroValue t).run P w = .ok z w := by
  cases hq : P.info? t with
  | none => simp [hq] at h
  | some inf =>
    have : inf.zero = some z := by simpa [hq] using h
    simp [zeroValue, typeInfo, hq, this]
/-- A new variable. -/
theorem MakeOp.alloc {d : Option Tmp} {t : TypeId} {z : Value} {ty : TypeId} {pos : String} {af : Array Edge} {g} {C : Array Value} (hz : (P.info? t).bind (·.zero) = some z) (hC : z.cells = C) (hR : ∀ E, AR (R1 E) C C) :
    MakeOp P ⟨d, .alloc t, ty, pos, af, g⟩ fr C false (fun n => .pointer (some ⟨n, 0, none⟩)) := by
  intro E a w hev
  refine ⟨t, z.cells, w.alloc (.cells z.cells t), .pointer (some ⟨w.heap.size, 0, none⟩), ?_, rfl, rfl, rfl, rfl, by rw [hC]; exact Nat.le_refl _, fun _ => by rw [hC], fun i x hx => by rw [hC]; exact (hR E).2 i x hx, fun E' n _ hn => ⟨_, hn, rfl⟩⟩
  unfold execOp
  simp [Instr.alloc, run_zero hz, newVar, newRow]
/-- A variable with its value. -/
theorem MakeOp.box {d : Option Tmp} {t : TypeId} {x : Operand} {C : Array Value} {ty : TypeId} {pos : String} {af : Array Edge} {g} (hx : aeval fr x = some (.agg C)) :
    MakeOp P ⟨d, .box t x, ty, pos, af, g⟩ fr C false (fun n => .pointer (some ⟨n, 0, none⟩)) := by
  intro E a w hev
  obtain ⟨D, e1, hD⟩ := hev x (by simp [Op.operands]) _ hx
  refine ⟨t, D, w.alloc (.cells D t), .pointer (some ⟨w.heap.size, 0, none⟩), ?_, rfl, rfl, rfl, rfl, by rw [hD.1]; exact Nat.le_refl _, fun _ => hD.1, hD.2, fun E' n _ hn => ⟨_, hn, rfl⟩⟩
  unfold execOp
  simp [Instr.box, e1, newVar, newRow, Value.cells]
theorem MakeOp.box1 {d : Option Tmp} {t : TypeId} {x : Operand} {v : Value} {ty : TypeId} {pos : String} {af : Array Edge} {g} (hx : aeval fr x = some v) (h1 : one1 v = true) :
    MakeOp P ⟨d, .box t x, ty, pos, af, g⟩ fr #[v] false (fun n => .pointer (some ⟨n, 0, none⟩)) := by
  intro E a w hev
  have hr := R1_of_R3 h1 (hev x (by simp [Op.operands]) _ hx)
  have hc : (a.eval x).cells = #[a.eval x] := by have := R1_one hr; cases hq : a.eval x <;> simp_all [Value.cells, Value.oneCell']
  refine ⟨t, #[a.eval x], w.alloc (.cells #[a.eval x] t), .pointer (some ⟨w.heap.size, 0, none⟩), ?_, rfl, rfl, rfl, rfl, by simp, fun _ => by simp, fun i y hy => ?_, fun E' n _ hn => ⟨_, hn, rfl⟩⟩
  · unfold execOp
    simp [Instr.box, newVar, newRow, hc]
  · cases i with
    | zero => simp at hy; subst hy; exact ⟨_, by simp, hr⟩
    | succ i => simp at hy
theorem storeCell_run {w : World} {l : Loc} {D : Array Value} {t : TypeId} {fz : Nat × Nat} {u : Value} {o : Nat} (ho : w.heap[l.blk]? = some (.cells D t fz)) (hfz : Thaw fz D.size) (hlt : o < D.size) (h1 : u.oneCell' = true) :
    (store ⟨l.blk, o, none⟩ u).run P w = .ok () (w.setCell ⟨l.blk, o, none⟩ u) := by
  rw [run_store P w _ u _ h1]
  have hc : w.cell? ⟨l.blk, o, none⟩ = some D[o] := by simp [World.cell?, ho, hlt]
  have hf : w.frozen? ⟨l.blk, o, none⟩ = false := by
    have := hfz o hlt
    simp only [World.frozen?, ho]
    simpa using this
  rw [hc]
  simp [hf]
/-- A store of one cell. -/
theorem WriteOp.store {d : Option Tmp} {t : TypeId} {x y : Operand} {n o : Nat} {C : Array Value} {opn : Bool} {v : Value} {ty : TypeId} {pos : String} {af : Array Edge} {g} (hx : aeval fr x = some (.pointer (some ⟨n, o, none⟩))) (hy : aeval fr y = some v) (h1 : one1 v = true)
    (hs : (P.info? t).map (·.size) = some 1) (hlt : o < C.size) : WriteOp P ⟨d, .store t x y, ty, pos, af, g⟩ fr n C opn (C.setIfInBounds o v) undef := by
  intro E a w l D t' fz hev hl ho hfz hb hle hC
  obtain ⟨l', hl', e1⟩ := hev x (by simp [Op.operands]) _ hx
  rw [hl] at hl'; injection hl' with hl'; subst hl'
  have hr := R1_of_R3 h1 (hev y (by simp [Op.operands]) _ hy)
  have hu1 := R1_one hr
  have hc : (a.eval y).cells = #[a.eval y] := by cases hq : a.eval y <;> simp_all [Value.cells, Value.oneCell']
  refine ⟨D.setIfInBounds (l.base + o) (a.eval y), w.setCell ⟨l.blk, l.base + o, none⟩ (a.eval y), .inr ⟨?_, rfl⟩, by simp [World.setCell], ?_, by simp, fun k hk => heap_set_far hk, rfl, rfl, rfl, by simp, fun i x hx => ?_⟩
  · cases hq : P.info? t with
    | none => simp [hq] at hs
    | some inf =>
      have hsz : inf.size = 1 := by simpa [hq] using hs
      unfold execOp
      simp only [e1, Instr.storeAt, Instr.sureAddr, storeVar, sizeOf, typeInfo, Sem.run_bind, Sem.run_pure, Result.andThen_ok, run_program, hq, hsz, hc]
      simp only [List.size_toArray, List.length_singleton, ne_eq, not_true_eq_false, if_false, storeCells, Sem.run_bind, add_addr, Nat.add_zero, Sem.run_pure, Result.andThen_ok, storeCell_run ho hfz (show l.base + o < D.size by omega) hu1]
  · simp [World.setCell, Array.getElem?_modify, ho]
  · rw [Array.getElem?_setIfInBounds] at hx
    by_cases hio : o = i
    · subst hio
      rw [if_pos rfl, if_pos hlt] at hx
      injection hx with hx; subst hx
      exact ⟨a.eval y, by simp [show l.base + o < D.size by omega], hr⟩
    · rw [if_neg hio] at hx
      obtain ⟨z, hz, hrz⟩ := hC i x hx
      exact ⟨z, by rw [Array.getElem?_setIfInBounds_ne (by omega)]; exact hz, hrz⟩
/-- A store of an array or a struct over cells. -/
def overlay (C : Array Value) (o : Nat) (X : Array Value) : Array Value := C.extract 0 o ++ X ++ C.extract (o + X.size) C.size
theorem overlay_size {C X : Array Value} {o : Nat} (h : o + X.size ≤ C.size) : (overlay C o X).size = C.size := by simp [overlay]; omega
theorem overlay_at {C X : Array Value} {o i : Nat} (h : o + X.size ≤ C.size) : (overlay C o X)[i]? = if o ≤ i ∧ i < o + X.size then X[i - o]? else C[i]? := by
  unfold overlay
  have s1 : (C.extract 0 o).size = o := by simp; omega
  have s2 : (C.extract 0 o ++ X).size = o + X.size := by simp; omega
  by_cases h1 : i < o
  · rw [if_neg (by omega), Array.append_assoc, Array.getElem?_append_left (by omega), Array.getElem?_extract_of_lt (by omega), Array.getElem?_eq_getElem (by omega)]
    simp
  · by_cases h2 : i < o + X.size
    · rw [if_pos ⟨by omega, h2⟩, Array.getElem?_append_left (by omega), Array.getElem?_append_right (by omega), s1]
    · rw [if_neg (by omega), Array.getElem?_append_right (by omega), s2]
      rcases Nat.lt_or_ge i C.size with h3 | h3
      · rw [Array.getElem?_extract_of_lt (by omega), Array.getElem?_eq_getElem h3]
        congr 1
        congr 1
        omega
      · rw [Array.getElem?_eq_none (by simp; omega), Array.getElem?_eq_none h3]
theorem overlay_all {C X : Array Value} (h : X.size = C.size) : overlay C 0 X = X := by
  apply Array.ext_getElem?
  intro i
  rw [overlay_at (by omega)]
  by_cases hi : i < X.size
  · rw [if_pos ⟨by omega, by omega⟩]; rfl
  · rw [if_neg (by omega), Array.getElem?_eq_none (by omega), Array.getElem?_eq_none (by omega)]
theorem storeCells_run {l : Loc} {t : TypeId} {fz : Nat × Nat} : ∀ (us : List Value) (o i : Nat) (D : Array Value) (w : World), w.heap[l.blk]? = some (.cells D t fz) → Thaw fz D.size → o + i + us.length ≤ D.size → (∀ u, u ∈ us → u.oneCell' = true) →
    ∃ W D', (storeCells ⟨l.blk, o, none⟩ us i).run P w = .ok () W ∧ W.heap.size = w.heap.size ∧ W.heap[l.blk]? = some (.cells D' t fz) ∧ D'.size = D.size ∧ (∀ k, k ≠ l.blk → W.heap[k]? = w.heap[k]?) ∧ W.os = w.os ∧ W.tape = w.tape ∧ W.output = w.output ∧
      (∀ j : Nat, D'[j]? = if o + i ≤ j ∧ j < o + i + us.length then us[j - (o + i)]? else D[j]?)
  | [], o, i, D, w, ho, _, _, _ => ⟨w, D, rfl, rfl, ho, rfl, fun _ _ => rfl, rfl, rfl, rfl, fun j => by rw [if_neg (by simp only [List.length_nil]; omega)]⟩
  | u :: us, o, i, D, w, ho, hfz, hle, h1 => by
    simp only [List.length_cons] at hle
    have hst := storeCell_run (P := P) (l := l) (o := o + i) (u := u) ho hfz (by omega) (h1 u (by simp))
    have ho' : (w.setCell ⟨l.blk, o + i, none⟩ u).heap[l.blk]? = some (.cells (D.setIfInBounds (o + i) u) t fz) := by simp [World.setCell, Array.getElem?_modify, ho]
    obtain ⟨W, D', g1, g2, g3, g4, g5, g6, g7, g8, g9⟩ := storeCells_run us o (i + 1) _ _ ho' (by simpa using hfz) (by simp; omega) (fun x hx => h1 x (by simp [hx]))
    refine ⟨W, D', ?_, ?_, g3, by simpa using g4, fun k hk => (g5 k hk).trans (heap_set_far hk), g6, g7, g8, fun j => ?_⟩
    · simp only [storeCells, Sem.run_bind, add_addr, hst, Result.andThen_ok]; exact g1
    · rw [g2]; simp [World.setCell]
    · rw [g9 j]
      by_cases ha : o + (i + 1) ≤ j ∧ j < o + (i + 1) + us.length
      · rw [if_pos ha, if_pos ⟨by omega, by simp; omega⟩, show j - (o + i) = (j - (o + (i + 1))) + 1 by omega]; simp
      · rw [if_neg ha]
        by_cases hb : o + i = j
        · subst hb
          rw [if_pos ⟨by omega, by simp⟩]
          simp [show o + i < D.size by omega]
        · rw [if_neg (by simp; omega), Array.getElem?_setIfInBounds_ne hb]
theorem WriteOp.storeA {d : Option Tmp} {t : TypeId} {x y : Operand} {n o : Nat} {C X : Array Value} {opn : Bool} {ty : TypeId} {pos : String} {af : Array Edge} {g} (hx : aeval fr x = some (.pointer (some ⟨n, o, none⟩))) (hy : aeval fr y = some (.agg X))
    (hs : (P.info? t).map (·.size) = some X.size) (hlt : o + X.size ≤ C.size) : WriteOp P ⟨d, .store t x y, ty, pos, af, g⟩ fr n C opn (overlay C o X) undef := by
  intro E a w l D t' fz hev hl ho hfz hb hle hC
  obtain ⟨l', hl', e1⟩ := hev x (by simp [Op.operands]) _ hx
  rw [hl] at hl'; injection hl' with hl'; subst hl'
  obtain ⟨X', e2, hX⟩ := hev y (by simp [Op.operands]) _ hy
  have hone : ∀ u, u ∈ X'.toList → u.oneCell' = true := by
    intro u hu
    obtain ⟨i, hi, rfl⟩ := List.mem_iff_getElem.1 hu
    simp only [Array.length_toList] at hi
    obtain ⟨u, hu, hr⟩ := hX.2 i (X[i]'(by rw [hX.1]; exact hi)) (Array.getElem?_eq_getElem _)
    rw [Array.getElem?_eq_getElem hi] at hu
    injection hu with hu
    rw [Array.getElem_toList, hu]
    exact R1_one hr
  obtain ⟨W, D', g1, g2, g3, g4, g5, g6, g7, g8, g9⟩ := storeCells_run (P := P) X'.toList (l.base + o) 0 D w ho hfz (by simp [← hX.1]; omega) hone
  refine ⟨D', W, .inr ⟨?_, rfl⟩, g2, g3, g4, g5, g6, g7, g8, overlay_size hlt, fun i v hv => ?_⟩
  · cases hq : P.info? t with
    | none => simp [hq] at hs
    | some inf =>
      have hsz : inf.size = X.size := by simpa [hq] using hs
      unfold execOp
      simp only [e1, e2, Instr.storeAt, Instr.sureAddr, storeVar, sizeOf, typeInfo, Sem.run_bind, Sem.run_pure, Result.andThen_ok, run_program, hq, hsz, Value.cells, hX.1, ne_eq, not_true_eq_false, if_false, g1]
  · rw [overlay_at hlt] at hv
    by_cases hi : o ≤ i ∧ i < o + X.size
    · rw [if_pos hi] at hv
      obtain ⟨u, hu, hr⟩ := hX.2 _ v hv
      refine ⟨u, ?_, hr⟩
      rw [g9, if_pos ⟨by omega, by simp [← hX.1]; omega⟩, show l.base + i - (l.base + o + 0) = i - o by omega]
      simpa using hu
    · rw [if_neg hi] at hv
      obtain ⟨u, hu, hr⟩ := hC i v hv
      refine ⟨u, ?_, hr⟩
      rw [g9, if_neg (by simp [← hX.1]; omega)]
      exact hu
/-- A result that lies in a block whole. -/
theorem RV.cellA {s : St} {t ty : TypeId} {n sz o : Nat} {C : Array Value} {opn rw : Bool} (hx : look s.fr t = some (.pointer (some ⟨n, o, none⟩))) (hm : mfind s.m n = some (.cells C opn rw)) (ht : aggT P ty = some true) (hs : (P.info? ty).map (·.size) = some sz) (hle : o + sz ≤ C.size) :
    RV P s (.cell t ty) (.agg (C.extract o (o + sz))) := by
  intro E a w N lo hs'
  obtain ⟨x, hx', hrx⟩ := hs'.fr t _ hx
  obtain ⟨l, hl, hB⟩ := hs'.rep.at_ n _ hm
  have hev : Ev (.load ty (.tmp 0)) [(0, .pointer (some ⟨n, o, none⟩))] E { tmps := #[x], defers := [] } := by
    intro y _ v hy
    cases y with
    | tmp k =>
      simp only [aeval, look_cons] at hy
      by_cases hk : 0 = k
      · subst hk; simp at hy; subst hy; simpa [Act.eval] using hrx
      · rw [if_neg hk] at hy; cases hy
    | const c => exact constV_spec E hy
    | global g => cases hy
    | func f => injection hy with hy; subst hy; exact ⟨#[], #[], rfl, ⟨rfl, fun i v h => by simp at h⟩, ⟨rfl, fun i v h => by simp at h⟩⟩
  obtain ⟨u, hu, hr⟩ := ReadOp.loadA (P := P) (d := none) (t := ty) (x := .tmp 0) (ty := 0) (pos := "") (af := #[]) (g := none) (opn := opn) (rw := rw) rfl ht hs hle E _ w l hev hl hB (fun hg => hs'.rep.glob n l hg hl)
  obtain ⟨l', hl', rfl⟩ := hrx
  refine ⟨u, _, hx', ?_, hr⟩
  have h2 : (execOp (Act.eval { tmps := #[.pointer (some ⟨l'.blk, l'.base + o, none⟩)], defers := [] }) ⟨none, .load ty (.tmp 0), 0, "", #[], none⟩).run P w = ((loadVar ty ⟨l'.blk, l'.base + o, none⟩).run P w).andThen fun v w => .ok (.value v) w := by
    simp [execOp, Instr.loadAt, Instr.sureAddr, Act.eval]
  rw [h2] at hu
  simp only [asAddr, Sem.run_bind, Sem.run_pure, Result.andThen_ok]
  cases hq : (loadVar ty ⟨l'.blk, l'.base + o, none⟩).run P w with
  | ok v W => rw [hq] at hu; simp at hu; rw [hu.1, hu.2]
  | halt h W => rw [hq] at hu; simp at hu
end
end Go.Proofs.YtbfakdpnefhgkaaDoor.Sl
