/-
  Blocks of memory that are known whole, and what the world's words do to them. Plain lemmas, over any program.
-/
import Derived.WalkKit
import Derived.WalkSpells
import Derived.WalkLawsBesides
import Derived.Lib.Hide
import Derived.Test.YtbfakdpnefhgkaaDoorBv
set_option linter.unusedSimpArgs false
set_option linter.unusedVariables false
namespace Go.Proofs.YtbfakdpnefhgkaaDoor.Mem
open Go Go.RowKit
theorem size_alloc (w : World) (o : Obj) : (w.alloc o).heap.size = w.heap.size + 1 := by
  show (w.heap.push o).size = _
  simp
theorem heap_lt {w : World} {o : Obj} {i : Nat} (h : i < w.heap.size) : (w.alloc o).heap[i]? = w.heap[i]? := by
  show (w.heap.push o)[i]? = _
  rw [Array.getElem?_push, if_neg (by omega)]
theorem heap_at (w : World) (o : Obj) : (w.alloc o).heap[w.heap.size]? = some o := by
  show (w.heap.push o)[w.heap.size]? = some o
  simp
theorem heap_set_far {w : World} {a : Addr} {v : Value} {k : Nat} (h : k ≠ a.block) : (w.setCell a v).heap[k]? = w.heap[k]? := by
  simp only [World.setCell, Array.getElem?_modify]
  rw [if_neg (fun e => h e.symm)]
theorem size_set (w : World) (a : Addr) (v : Value) : (w.setCell a v).heap.size = w.heap.size := by
  simp [World.setCell]
/-- Block g is just these cells, of this element type, none frozen. -/
def Bk (w : World) (g : Nat) (t : TypeId) (cs : Array Value) : Prop := w.heap[g]? = some (.cells cs t (0, 0))
section
variable {w w' : World} {g : Nat} {t : TypeId} {cs : Array Value}
theorem Bk.lt (h : Bk w g t cs) : g < w.heap.size := (Array.getElem?_eq_some_iff.1 h).1
theorem Bk.cell (h : Bk w g t cs) (i : Nat) : w.cell? ⟨g, i, none⟩ = cs[i]? := by
  unfold Bk at h
  simp [World.cell?, h]
theorem Bk.frozen (h : Bk w g t cs) (i : Nat) : w.frozen? ⟨g, i, none⟩ = false := by
  unfold Bk at h
  simp [World.frozen?, h]
theorem Bk.shape (h : Bk w g t cs) : w.shape? g = some (t, cs.size) := by
  unfold Bk at h
  simp [World.shape?, h]
theorem Bk.new (w : World) (t : TypeId) (cs : Array Value) : Bk (w.alloc (.cells cs t)) w.heap.size t cs := heap_at w _
theorem Bk.drew (h : Bk w g t cs) : Bk w.drew g t cs := h
theorem Bk.drewN (h : Bk w g t cs) (n : Nat) : Bk (w.drewN n) g t cs := h
theorem Bk.alloc (h : Bk w g t cs) (o : Obj) : Bk (w.alloc o) g t cs := (heap_lt h.lt).trans h
theorem Bk.set_ (h : Bk w g t cs) (i : Nat) (u : Value) : Bk (w.setCell ⟨g, i, none⟩ u) g t (cs.setIfInBounds i u) := by
  unfold Bk at h ⊢
  simp [World.setCell, Array.getElem?_modify, h]
theorem Bk.far (h : Bk w g t cs) {p : Addr} (hp : g ≠ p.block) (u : Value) : Bk (w.setCell p u) g t cs := (heap_set_far hp).trans h
theorem Bk.below {B : Nat} (h : Bk w g t cs) (hb : Below B w w') (hg : g < B) : Bk w' g t cs := (hb.block g hg).trans h
theorem Bk.ne {g' : Nat} {t' : TypeId} {cs' : Array Value} (h : Bk w g t cs) (h' : Bk w g' t' cs') (hne : t ≠ t') : g ≠ g' := by
  rintro rfl
  unfold Bk at h h'
  rw [h] at h'
  injection h' with h'
  injection h' with _ ht
  exact hne ht
end
/-- The cells of an array of whole numbers of n bits. -/
def arr (k : IntKind) {n : Nat} (l : List (BitVec n)) : Array Value := (l.map fun x => Value.int k (Bv.nb x)).toArray
theorem Bk.new2 (w : World) (o : Obj) (t : TypeId) (cs : Array Value) : Bk ((w.alloc o).alloc (.cells cs t)) (w.heap.size + 1) t cs := by
  have := Bk.new (w.alloc o) t cs
  rwa [size_alloc] at this
theorem Bk.newAt (w : World) {g : Nat} (hg : w.heap.size = g) (t : TypeId) (cs : Array Value) : Bk (w.alloc (.cells cs t)) g t cs := by
  subst hg; exact Bk.new w t cs
theorem size_row (w : World) (g : Nat) (cs : Array Value) : (w.setRow g cs).heap.size = w.heap.size := by simp [World.setRow]
theorem Bk.new3 (w : World) (o o' : Obj) (t : TypeId) (cs : Array Value) : Bk (((w.alloc o).alloc o').alloc (.cells cs t)) (w.heap.size + 2) t cs := by
  have := Bk.new ((w.alloc o).alloc o') t cs
  rwa [size_alloc, size_alloc] at this
theorem Bk.new4 (w : World) (o o' o'' : Obj) (t : TypeId) (cs : Array Value) : Bk ((((w.alloc o).alloc o').alloc o'').alloc (.cells cs t)) (w.heap.size + 3) t cs := by
  have := Bk.new (((w.alloc o).alloc o').alloc o'') t cs
  rwa [size_alloc, size_alloc, size_alloc] at this
/-- Element i of a list of numbers; 0 behind its end. -/
def at_ {n : Nat} (l : List (BitVec n)) (i : Nat) : BitVec n := l.getD i 0
theorem arr_get (k : IntKind) {n : Nat} (l : List (BitVec n)) (i : Nat) (h : i < l.length) : (arr k l)[i]? = some (.int k (Bv.nb (at_ l i))) := by
  simp [arr, at_, List.getD_eq_getElem?_getD, List.getElem?_eq_getElem h]
theorem arr_size (k : IntKind) {n : Nat} (l : List (BitVec n)) : (arr k l).size = l.length := by simp [arr]
theorem arr_set (k : IntKind) {n : Nat} (l : List (BitVec n)) (i : Nat) (x : BitVec n) : (arr k l).setIfInBounds i (.int k (Bv.nb x)) = arr k (l.set i x) := by
  simp [arr, List.map_set]
theorem Bk.word {w : World} {g : Nat} {t : TypeId} {k : IntKind} {n : Nat} {l : List (BitVec n)} (h : Bk w g t (arr k l)) (i : Nat) (hi : i < l.length) :
    w.cell? ⟨g, i, none⟩ = some (.int k (Bv.nb (at_ l i))) := (h.cell i).trans (arr_get k l i hi)
theorem Bk.setWord {w : World} {g : Nat} {t : TypeId} {k : IntKind} {n : Nat} {l : List (BitVec n)} (h : Bk w g t (arr k l)) (i : Nat) (x : BitVec n) :
    Bk (w.setCell ⟨g, i, none⟩ (.int k (Bv.nb x))) g t (arr k (l.set i x)) := by rw [← arr_set]; exact h.set_ i _
theorem Bk.setRow {w : World} {g : Nat} {t : TypeId} {cs : Array Value} (h : Bk w g t cs) (cs' : Array Value) : Bk (w.setRow g cs') g t cs' := setRow_heap w g cs cs' t _ h
theorem Bk.farRow {w : World} {g : Nat} {t : TypeId} {cs : Array Value} (h : Bk w g t cs) {g' : Nat} (hg : g ≠ g') (cs' : Array Value) : Bk (w.setRow g' cs') g t cs := (setRow_other w g' g cs' hg).trans h
theorem below_row {B g : Nat} {w0 w : World} (hb : Below B w0 w) (hBg : B ≤ g) (cs : Array Value) : Below B w0 (w.setRow g cs) :=
  hb.trans ⟨rfl, rfl, rfl, by simp [World.setRow], fun k hk => setRow_other w g k cs (by omega)⟩
theorem arr_one (k : IntKind) {n : Nat} (l : List (BitVec n)) : (arr k l).all (·.oneCell') = true := by
  rw [Array.all_eq_true_iff_forall_mem]
  intro v hv
  simp only [arr, List.mem_toArray, List.mem_map] at hv
  obtain ⟨x, _, rfl⟩ := hv
  rfl
section
variable {P : Program} {ops : Array Oper} {rest : List Oper} {o : Oper} {a : Act} {w : World} {Q : Exit → Act → World → Prop}
/-- A whole array is read out of a block. -/
theorem wpList_loadA {g : Nat} {t : TypeId} {cs : Array Value} {n : Nat} {e : TypeId} (hb : Bk w g t cs) (ty : TypeId) (x : Operand) (hgd : o.guard = none) (ho : o.op = .load ty x)
    (hx : a.eval x = .pointer (some ⟨g, 0, none⟩)) (hu : P.underlying ty = some (.array n e)) (hi : (P.info? ty).map (·.size) = some cs.size)
    (h : wpList P ops Q rest (a.put o.dst (.agg cs)) w) : wpList P ops Q (o :: rest) a w :=
  wpList_load_row hgd ty x ho g hx t cs (0, 0) _ hb hu rfl hi h
/-- A whole array is stored into a block of its size. -/
theorem wpList_storeA {g : Nat} {t : TypeId} {old cs : Array Value} (hb : Bk w g t old) (ty : TypeId) (x y : Operand) (hgd : o.guard = none) (ho : o.op = .store ty x y)
    (hx : a.eval x = .pointer (some ⟨g, 0, none⟩)) (hy : a.eval y = .agg cs) (hi : (P.info? ty).map (·.size) = some cs.size) (hs : old.size = cs.size) (h1 : cs.all (·.oneCell') = true)
    (h : wpList P ops Q rest (a.put o.dst undef) (w.setRow g cs)) : wpList P ops Q (o :: rest) a w :=
  wpList_plain hgd fun K hK => by
    unfold Oper.wp execOp
    simp only [ho, hx, hy, Instr.storeAt, Instr.sureAddr, Sem.run_bind, Sem.run_pure, Result.andThen_ok, run_storeVar_row w g t ty old cs hb hi hs h1]
    exact hK _ _ h
theorem add_off (g o i : Nat) : (⟨g, o, none⟩ : Addr).add i = ⟨g, o + i, none⟩ := by
  unfold Addr.add
  by_cases h : i = 0
  · subst h; simp
  · simp [h]
theorem sliceBound_at (k : IntKind) (i : Int) (l y : Nat) (code : BoundsCode) (hl : i = l) (h : l ≤ y) (W : World) : (Instr.sliceBound (.int k i) y code).run P W = .ok l W := by
  subst hl
  simp [Instr.sliceBound, asIntOf, h]
theorem size_one {e : TypeId} (hs : (P.info? e).map (·.size) = some 1) (W : World) : (sizeOf e).run P W = .ok 1 W := by
  cases hq : P.info? e with
  | none => simp [hq] at hs
  | some i =>
    have : i.size = 1 := by simpa [hq] using hs
    simp [sizeOf, typeInfo, hq, this]
/-- 'a[i]' of an array value of whole numbers. -/
theorem run_index_arr {T : TypeId} {n : Nat} {e : TypeId} {ke : IntKind} (hu : P.underlying T = some (.array n e)) (hue : P.underlying e = some (.int ke)) (hs : (P.info? e).map (·.size) = some 1) (k : IntKind) {m : Nat} (l : List (BitVec m)) (hl : l.length = n)
    (i : Int) (j : Nat) (hi : i = j) (hj : j < n) (W : World) : (Instr.index T (.agg (arr ke l)) (.int k i)).run P W = .ok (.int ke (Bv.nb (at_ l j))) W := by
  subst hi
  have hagg : (isAgg e).run P W = .ok false W := by simp [isAgg, run_underlying hue]
  have hg := arr_get ke l j (by omega)
  have hlt : ((j : Nat) : Int) < (n : Int) := by omega
  simp only [Instr.index, Sem.run_bind, run_underlying hu W, Result.andThen_ok, asIntOf, Sem.run_pure]
  rw [if_pos ⟨by omega, hlt⟩]
  simp [part, Sem.run_bind, size_one hs W, hagg, hg]
/-- 'a[l:]' of an array variable. -/
theorem sl_lo {T : TypeId} {n : Nat} {e : TypeId} (hu : P.underlying T = some (.array n e)) (hs : (P.info? e).map (·.size) = some 1) (g o : Nat) (k : IntKind) (lo : Int) (l : Nat) (hl : lo = l) (h : l < n) (W : World) :
    (Instr.sliceAt T (.pointer (some ⟨g, o, none⟩)) (some (.int k lo)) none none).run P W = .ok (.slice (some ⟨g, o + l, none⟩) (n - l) (n - l)) W := by
  simp only [Instr.sliceAt, Sem.run_bind, run_underlying hu W, Result.andThen_ok, Instr.sureAddr, Sem.run_pure, Instr.sliceBounds, Option.isSome, sliceBound_at k lo l n .sliceB hl (by omega) W, size_one hs W, add_off, Nat.mul_one, Bool.false_eq_true, if_false]
  rw [if_neg (by omega)]
/-- 'a[l:h]' -/
theorem sl_both {T : TypeId} {n : Nat} {e : TypeId} (hu : P.underlying T = some (.array n e)) (hs : (P.info? e).map (·.size) = some 1) (g o : Nat) (k k' : IntKind) (lo hi : Int) (l h : Nat) (hl : lo = l) (hh : hi = h) (h1 : l ≤ h) (h2 : h ≤ n) (h3 : l < n) (W : World) :
    (Instr.sliceAt T (.pointer (some ⟨g, o, none⟩)) (some (.int k lo)) (some (.int k' hi)) none).run P W = .ok (.slice (some ⟨g, o + l, none⟩) (h - l) (n - l)) W := by
  simp only [Instr.sliceAt, Sem.run_bind, run_underlying hu W, Result.andThen_ok, Instr.sureAddr, Sem.run_pure, Instr.sliceBounds, Option.isSome, sliceBound_at k' hi h n .sliceAlen hh h2 W, sliceBound_at k lo l h .sliceB hl h1 W, size_one hs W, add_off, Nat.mul_one, Bool.false_eq_true, if_false]
  rw [if_neg (by omega)]
/-- 'a[:h]' -/
theorem sl_hi {T : TypeId} {n : Nat} {e : TypeId} (hu : P.underlying T = some (.array n e)) (hs : (P.info? e).map (·.size) = some 1) (g o : Nat) (k' : IntKind) (hi : Int) (h : Nat) (hh : hi = h) (h2 : h ≤ n) (W : World) :
    (Instr.sliceAt T (.pointer (some ⟨g, o, none⟩)) none (some (.int k' hi)) none).run P W = .ok (.slice (some ⟨g, o, none⟩) h n) W := by
  simp only [Instr.sliceAt, Sem.run_bind, run_underlying hu W, Result.andThen_ok, Instr.sureAddr, Sem.run_pure, Instr.sliceBounds, sliceBound_at k' hi h n .sliceAlen hh h2 W, size_one hs W, add_off, Nat.mul_one, Nat.add_zero, ite_self, Nat.sub_zero, Nat.zero_mul, Bool.false_eq_true, if_false]
/-- 'a[:]' -/
theorem sl_all {T : TypeId} {n : Nat} {e : TypeId} (hu : P.underlying T = some (.array n e)) (hs : (P.info? e).map (·.size) = some 1) (g o : Nat) (W : World) :
    (Instr.sliceAt T (.pointer (some ⟨g, o, none⟩)) none none none).run P W = .ok (.slice (some ⟨g, o, none⟩) n n) W := by
  simp only [Instr.sliceAt, Sem.run_bind, run_underlying hu W, Result.andThen_ok, Instr.sureAddr, Sem.run_pure, Instr.sliceBounds, size_one hs W, add_off, Nat.mul_one, Nat.add_zero, ite_self, Nat.sub_zero, Nat.zero_mul]
end
attribute [irreducible] arr
end Go.Proofs.YtbfakdpnefhgkaaDoor.Mem
