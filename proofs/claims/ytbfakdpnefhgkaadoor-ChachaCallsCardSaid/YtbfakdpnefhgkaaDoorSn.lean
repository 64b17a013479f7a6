/-
  Appends. Plain lemmas, over any program.
-/
import Derived.Test.YtbfakdpnefhgkaaDoorSm
set_option linter.unusedSimpArgs false
set_option linter.unusedVariables false
namespace Go.Proofs.YtbfakdpnefhgkaaDoor.Sl
open Go Go.RowKit Bv Mem
/-- What a source of cells holds. -/
theorem src_of {E : Env} {l : Loc} {w : World} {C : Array Value} {opn rw : Bool} {o cnt : Nat} (hB : BRep E l w.heap[l.blk]? (.cells C opn rw)) (hle : o + cnt ≤ C.size) :
    ∃ X : Array Value, X.size = cnt ∧ (∀ (j : Nat) u, X.toList[j]? = some u → w.cell? ((⟨l.blk, l.base + o, none⟩ : Addr).add j) = some u) ∧ AR (R1 E) (C.extract o (o + cnt)) X ∧ ∀ u, u ∈ X.toList → u.oneCell' = true := by
  obtain ⟨D, t, fz, ho, h1, h2, h3, h4, h5⟩ := hB
  have har : AR (R1 E) (C.extract o (o + cnt)) (D.extract (l.base + o) (l.base + o + cnt)) := by
    refine ⟨by simp; omega, fun i v hv => ?_⟩
    have hi : i < cnt := by have := (Array.getElem?_eq_some_iff.1 hv).1; simp at this; omega
    rw [ext_at hi hle] at hv
    obtain ⟨u, hu, hr⟩ := h5 _ v hv
    exact ⟨u, by rw [ext_at hi (by omega), ← hu, Nat.add_assoc], hr⟩
  refine ⟨D.extract (l.base + o) (l.base + o + cnt), by simp; omega, fun j u hu => ?_, har, fun u hu => ?_⟩
  · rw [add_addr]
    have hu' : (D.extract (l.base + o) (l.base + o + cnt))[j]? = some u := by rw [← Array.getElem?_toList]; exact hu
    have hj : j < cnt := by have := (Array.getElem?_eq_some_iff.1 hu').1; simp at this; omega
    rw [ext_at hj (by omega)] at hu'
    simp [World.cell?, ho, hu']
  · obtain ⟨i, hi, rfl⟩ := List.mem_iff_getElem.1 hu
    simp only [Array.length_toList] at hi
    have hs := har.1
    obtain ⟨u, hu, hr⟩ := har.2 i ((C.extract o (o + cnt))[i]'(by omega)) (Array.getElem?_eq_getElem _)
    rw [Array.getElem?_eq_getElem hi] at hu
    injection hu with hu
    rw [Array.getElem_toList, hu]
    exact R1_one hr
theorem AR_append {E : Env} {A B C D : Array Value} (h : AR (R1 E) A B) (h' : AR (R1 E) C D) : AR (R1 E) (A ++ C) (B ++ D) := by
  refine ⟨by simp [h.1, h'.1], fun i v hv => ?_⟩
  rw [Array.getElem?_append] at hv ⊢
  rw [← h.1]
  by_cases hi : i < A.size
  · rw [if_pos hi] at hv ⊢; exact h.2 i v hv
  · rw [if_neg hi] at hv ⊢; exact h'.2 _ v hv
theorem exec_append {P : Program} {d : Option Tmp} {T T' : TypeId} {x y : Operand} {ty : TypeId} {pos : String} {af : Array Edge} {g} (a : Act) (w : World) :
    (execOp a.eval ⟨d, .call { callee := .builtin .append, args := #[x, y], argTypes := #[T, T'] }, ty, pos, af, g⟩).run P w = ((Builtin.append_ #[T, T'] ty #[a.eval x, a.eval y]).run P w).andThen fun v w => .ok (.value v) w := by
  unfold execOp
  simp [resolve, invoke, builtin]
section
variable {P : Program} {fr : Fr} {d : Option Tmp} {T e sz by_ : Nat} {b : Bool} {Z : Array Value} {x y : Operand} {ty : TypeId} {pos : String} {af : Array Edge} {g : Option (Nat × Bool)}
theorem info_of [TI P e b sz] [TBy P e by_] [TZ P e Z] : ∃ inf z, P.info? e = some inf ∧ inf.size = sz ∧ inf.bytes = by_ ∧ inf.zero = some z ∧ z.cells = Z := by
  obtain ⟨z, hz, hC⟩ := TZ.zero (P := P) (t := e) (C := Z)
  have hby := TBy.by_ (P := P) (t := e) (by_ := by_)
  have hsz := TI.sz (P := P) (t := e) (agg := b) (sz := sz)
  cases hq : P.info? e with
  | none => simp [hq] at hby
  | some inf => exact ⟨inf, z, rfl, by simpa [hq] using hsz, by simpa [hq] using hby, by simpa [hq] using hz, hC⟩
theorem zeroCells_size (Z : Array Value) (n : Nat) : (Builtin.zeroCells Z n).size = n * Z.size := by simp [Builtin.zeroCells]
theorem run_append_in {w : World} {inf : TypeInfo} (ht : P.underlying T = some (.slice e)) (hi : P.info? e = some inf) (bk o sLen sCap : Nat) (a : Addr) (m c : Nat) (news : List Value) (hl : news.length = m * inf.size)
    (hnews : ∀ (j : Nat) u, news[j]? = some u → w.cell? (a.add j) = some u) (hroom : sLen + m ≤ sCap) {W : World} (hst : (storeCells ⟨bk, o + sLen * inf.size, none⟩ news).run P w = .ok () W) :
    (Builtin.append_ #[T, T] ty #[.slice (some ⟨bk, o, none⟩) sLen sCap, .slice (some a) m c]).run P w = .ok (.slice (some ⟨bk, o, none⟩) (sLen + m) sCap) W := by
  have hf := run_firstCells_some (P := P) w inf.size m a m c news hl hnews
  simp only [Builtin.append_, Sem.run_bind, run_underlying ht, Result.andThen_ok, List.getElem?_toArray, List.getElem?_cons_zero, List.getElem?_cons_succ, sizeOf, typeInfo, run_program, hi, Sem.run_pure, Builtin.lenOf]
  simp [hroom, hf, add_addr, hst]
/-- Onto a slice as long as what is known of its block, whose capacity is not known: in place or into a new block, it is told under a new name; the old one is told no more. -/
theorem LocalOp.appU [TS P T e] [TI P e b sz] [TBy P e by_] [TZ P e Z] {n n2 o2 len m cp2 k : Nat} {C C2 : Array Value} {opn2 : Bool} (hx : aeval fr x = some (.slice (some ⟨n, 0, none⟩) len (capU + sz))) (hy : aeval fr y = some (.slice (some ⟨n2, o2, none⟩) m cp2))
    (hC : C.size = len * sz) (hC2 : o2 + m * sz ≤ C2.size) (hne : n ≠ n2) (hZ : Z.size = sz) (hsz : 0 < sz) (hb : (len + m) * by_ ≤ 140737488355328) (h63 : len + m < 9223372036854775808) (hk : k ≠ n) :
    LocalOp P ⟨d, .call { callee := .builtin .append, args := #[x, y], argTypes := #[T, T] }, ty, pos, af, g⟩ fr [(n, some (.cells C true true)), (n2, some (.cells C2 opn2 false))] [k]
      (fun v m' => v = .slice (some ⟨k, 0, none⟩) (len + m) (capU + sz) ∧ m' = [(n, none), (k, some (.cells (C ++ C2.extract o2 (o2 + m * sz)) true true))]) := by
  intro E a w hev hrep hfresh next Q hnext
  obtain ⟨l, hl, e1⟩ := hev x (by simp [Op.operands, Call.operands]) _ hx
  obtain ⟨l2, hl2, e2⟩ := hev y (by simp [Op.operands, Call.operands]) _ hy
  have hcap : capOf (l.top - 0) (capU + sz) = l.top / sz := by unfold capOf; rw [if_pos (by omega)]; simp
  rw [hcap] at e1
  obtain ⟨l', hl', hB⟩ := hrep.at_ n (.cells C true true) (by simp [mfind])
  rw [hl] at hl'; injection hl' with hl'; subst hl'
  obtain ⟨l2', hl2', hB2⟩ := hrep.at_ n2 (.cells C2 opn2 false) (by rw [mfind_cons, if_neg hne, mfind_cons, if_pos rfl])
  rw [hl2] at hl2'; injection hl2' with hl2'; subst hl2'
  have hblk : l.blk ≠ l2.blk := fun h => hne (hrep.far n (.cells C true true) n2 (.cells C2 opn2 false) l l2 (by simp [mfind]) (by rw [mfind_cons, if_neg hne, mfind_cons, if_pos rfl]) rfl hl hl2 h)
  obtain ⟨X, hXs, hXc, hXr, hX1⟩ := src_of hB2 hC2
  obtain ⟨D, t, fz, ho, g1, g2, g3, g4, g5⟩ := hB
  obtain ⟨inf, z, hq, hisz, hiby, hiz, hzC⟩ := info_of (P := P) (e := e) (b := b) (sz := sz) (by_ := by_) (Z := Z)
  have hT := TS.un (P := P) (t := T) (e := e)
  have hkf := hfresh k (by simp)
  have ownN : Owned E [(n, some (.cells C true true)), (n2, some (.cells C2 opn2 false))] l.blk := ⟨n, .cells C true true, l, by simp [mfind], rfl, hl, rfl⟩
  -- what stands for the result
  have fin : ∀ (lk : Loc) (u : Value) (W : World) (D' : Array Value) (t' : TypeId) (fz' : Nat × Nat), (lk.blk = l.blk ∨ w.heap.size ≤ lk.blk) → W.heap[lk.blk]? = some (.cells D' t' fz') → Thaw fz' D'.size → lk.base + lk.top = D'.size → C.size + m * sz ≤ lk.top →
      (∀ (i : Nat) v, (C ++ C2.extract o2 (o2 + m * sz))[i]? = some v → ∃ y, D'[lk.base + i]? = some y ∧ R1 E v y) → u = .slice (some ⟨lk.blk, lk.base + 0, none⟩) (len + m) (lk.top / sz) →
      W.os = w.os → W.tape = w.tape → W.output = w.output → w.heap.size ≤ W.heap.size → (∀ j, j < w.heap.size → j ≠ l.blk → W.heap[j]? = w.heap[j]?) → next (a.put d u) W := by
    intro lk u W D' t' fz' hlk hD' hfz' htop hCs hcells hu hos htape hout hsz' hother
    have hle := Env.plus_le (E := E) lk hkf.1
    refine hnext (E.plus k lk) _ u _ W ⟨rfl, rfl⟩ hle (fun j hj => Env.plus_ne (by simpa using hj)) ?_ ⟨fun j bk hb => ?_, ?_, fun gg lg hg hlg => ?_⟩ ⟨hos, htape, hout, hsz', fun j hj ho' => ⟨hother j hj (fun h => ho' (h ▸ ownN)), ?_⟩⟩
    · refine ⟨lk, Env.plus_at _ _ _, ?_⟩
      rw [hu]
      have : capOf (lk.top - 0) (capU + sz) = lk.top / sz := by unfold capOf; rw [if_pos (by omega)]; simp
      rw [this]
    · rw [mfind_cons] at hb
      by_cases hj : n = j
      · rw [if_pos hj] at hb; cases hb
      · rw [if_neg hj, mfind_cons] at hb
        by_cases hj2 : k = j
        · rw [if_pos hj2] at hb; injection hb with hb; subst hb; subst hj2
          refine ⟨lk, Env.plus_at _ _ _, D', t', fz', hD', htop, ?_, (fun h => by cases h), fun _ => hfz', fun i v hv => ?_⟩
          · simp; omega
          · obtain ⟨y, hy, hr⟩ := hcells i v hv
            exact ⟨y, hy, hr.le hle⟩
        · rw [if_neg hj2] at hb; cases hb
    · intro j bj j' bj' lj lj' h1 h2
      rw [mfind_cons] at h1 h2
      by_cases hj : n = j
      · rw [if_pos hj] at h1; cases h1
      · by_cases hj' : n = j'
        · rw [if_pos hj'] at h2; cases h2
        · rw [if_neg hj, mfind_cons] at h1
          rw [if_neg hj', mfind_cons] at h2
          by_cases hk1 : k = j
          · by_cases hk2 : k = j'
            · intros; omega
            · rw [if_neg hk2] at h2; cases h2
          · rw [if_neg hk1] at h1; cases h1
    · by_cases hgk : gg = k
      · subst hgk; have := hkf.2; omega
      · rw [Env.plus_ne hgk] at hlg; exact hrep.glob gg lg hg hlg
    · rintro ⟨j2, bj, lj, h1, h2, h3, h4⟩
      rw [mfind_cons] at h1
      by_cases hj : n = j2
      · rw [if_pos hj] at h1; cases h1
      · rw [if_neg hj, mfind_cons] at h1
        by_cases hk1 : k = j2
        · subst hk1
          rw [Env.plus_at] at h3
          injection h3 with h3; subst h3
          rcases hlk with hlk | hlk
          · exact ho' (by rw [← h4, hlk]; exact ownN)
          · omega
        · rw [if_neg hk1] at h1; cases h1
  unfold Oper.wp
  rw [exec_append, e1, e2]
  by_cases hroom : len + m ≤ l.top / sz
  · -- in place
    have hroom' : (len + m) * sz ≤ l.top := Nat.le_trans (Nat.mul_le_mul_right sz hroom) (Nat.div_mul_le_self _ _)
    rw [Nat.add_mul] at hroom'
    obtain ⟨W, D', s1, s2, s3, s4, s5, s6, s7, s8, s9⟩ := storeCells_run (P := P) X.toList (l.base + 0 + len * inf.size) 0 D w ho (g4 rfl) (by simp [hXs, hisz]; omega) hX1
    have hrun := run_append_in (P := P) (ty := ty) hT hq l.blk (l.base + 0) len (l.top / sz) ⟨l2.blk, l2.base + o2, none⟩ m (capOf (l2.top - o2) cp2) X.toList (by simp [hXs, hisz]) hXc hroom s1
    rw [hrun]
    refine fin l _ W D' t fz (.inl rfl) s3 (by rw [s4]; exact g4 rfl) (by rw [s4]; exact g1) (by rw [hC]; exact hroom') (fun i v hv => ?_) rfl s6 s7 s8 (by omega) (fun j _ hj => s5 j hj)
    rw [Array.getElem?_append] at hv
    by_cases hi : i < C.size
    · rw [if_pos hi] at hv
      obtain ⟨y, hy, hr⟩ := g5 i v hv
      exact ⟨y, by rw [s9, if_neg (by rw [hisz]; omega)]; exact hy, hr⟩
    · rw [if_neg hi] at hv
      obtain ⟨y, hy, hr⟩ := hXr.2 _ v hv
      have hlt : i - C.size < X.size := (Array.getElem?_eq_some_iff.1 hy).1
      refine ⟨y, ?_, hr⟩
      rw [s9, if_pos ⟨by rw [hisz]; omega, by rw [hisz]; simp; omega⟩, hisz, show l.base + i - (l.base + 0 + len * sz + 0) = i - C.size by omega]
      simpa using hy
  · -- into a new block
    obtain ⟨Y, hYs, hYc, hYr, _⟩ := src_of (E := E) (l := l) (w := w) (C := C) (opn := true) (rw := true) (o := 0) (cnt := len * sz) ⟨D, t, fz, ho, g1, g2, g3, g4, g5⟩ (by omega)
    have hrun := run_append_grow (P := P) w T ty e inf z hT hq hiz ⟨l.blk, l.base + 0, none⟩ len (l.top / sz) Y.toList (by simp [hYs, hisz]) hYc ⟨l2.blk, l2.base + o2, none⟩ m (capOf (l2.top - o2) cp2) X.toList (by simp [hXs, hisz]) hXc (by omega) (by omega)
      (growslice_fits (by omega) (by rw [hiby]; exact hb))
    rw [hrun]
    have hgc := grownCap_ge w (len + m) (l.top / sz) e
    generalize grownCap w (len + m) (l.top / sz) e = G at *
    have hsz2 : (Y.toList.toArray ++ X.toList.toArray ++ Builtin.zeroCells z.cells (G - (len + m))).size = G * sz := by
      simp only [Array.size_append, zeroCells_size, hzC, hZ, List.size_toArray, Array.length_toList, hYs, hXs]
      rw [Nat.sub_mul, Nat.add_mul]
      have := Nat.mul_le_mul_right sz hgc
      rw [Nat.add_mul] at this
      omega
    have hGs : (len + m) * sz ≤ G * sz := Nat.mul_le_mul_right sz hgc
    rw [Nat.add_mul] at hGs
    refine fin ⟨w.heap.size, 0, G * sz⟩ _ _ (Y.toList.toArray ++ X.toList.toArray ++ Builtin.zeroCells z.cells (G - (len + m))) e (0, 0) (.inr (Nat.le_refl _)) (heap_at w.drew _) (thaw0 _) (by rw [hsz2]; simp) (by rw [hC]; exact hGs) (fun i v hv => ?_) (by simp [Nat.mul_div_cancel _ hsz]) rfl rfl rfl (by simp [size_alloc]) (fun j hj _ => heap_lt (w := w.drew) hj)
    have hCC : C.extract 0 (0 + len * sz) = C := by rw [Nat.zero_add, ← hC]; simp
    rw [hCC] at hYr
    obtain ⟨y, hy, hr⟩ := (AR_append hYr hXr).2 i v hv
    refine ⟨y, ?_, hr⟩
    rw [Nat.zero_add, Array.getElem?_append_left (by have := (Array.getElem?_eq_some_iff.1 hy).1; simpa using this)]
    simpa using hy
end
end Go.Proofs.YtbfakdpnefhgkaaDoor.Sl
