/-
  Names read under other names. Plain lemmas, over any program.
-/
import Derived.Test.YtbfakdpnefhgkaaDoorSa
set_option linter.unusedSimpArgs false
set_option linter.unusedVariables false
namespace Go.Proofs.YtbfakdpnefhgkaaDoor.Sl
open Go Go.RowKit Bv Mem
/-- A callee's name: the caller's name, and how far behind its beginning. -/
abbrev Nm := Nat → Option (Nat × Nat)
def rn0 (f : Nm) : Value → Value
  | .pointer (some ⟨n, o, none⟩) => match f n with
    | some (c, sh) => .pointer (some ⟨c, sh + o, none⟩)
    | none => .chan (some 0)
  | .slice (some ⟨n, o, none⟩) k cp => match f n with
    | some (c, sh) => .slice (some ⟨c, sh + o, none⟩) k cp
    | none => .chan (some 0)
  | .map (some r) => match f r with
    | some (c, _) => .map (some c)
    | none => .chan (some 0)
  | v => v
def rn1 (f : Nm) : Value → Value
  | .func (.func g) a b => .func (.func g) (a.map (rn0 f)) (b.map (rn0 f))
  | v => rn0 f v
def rn2 (f : Nm) : Value → Value
  | .agg cs => .agg (cs.map (rn1 f))
  | v => rn1 f v
def rn3 (f : Nm) : Value → Value
  | .tuple vs => .tuple (vs.map (rn2 f))
  | v => rn2 f v
def Loc.shift (l : Loc) (sh : Nat) : Loc := ⟨l.blk, l.base + sh, l.top - sh⟩
/-- The caller's table as the callee sees it. -/
def Env.via (E : Env) (f : Nm) : Env := fun n => (f n).bind fun p => (E p.1).map (·.shift p.2)
theorem via_at {E : Env} {f : Nm} {n c sh : Nat} {l : Loc} (h : f n = some (c, sh)) (hl : E c = some l) : E.via f n = some (l.shift sh) := by simp [Env.via, h, hl]
theorem via_inv {E : Env} {f : Nm} {n : Nat} {l : Loc} (h : E.via f n = some l) : ∃ c sh l0, f n = some (c, sh) ∧ E c = some l0 ∧ l = l0.shift sh := by
  unfold Env.via at h
  cases hf : f n with
  | none => rw [hf] at h; cases h
  | some p =>
    obtain ⟨c, sh⟩ := p
    rw [hf] at h
    cases hE : E c with
    | none => simp [hE] at h
    | some l0 => simp [hE] at h; exact ⟨c, sh, l0, rfl, hE, h.symm⟩
theorem R0_rn (E : Env) (f : Nm) (v u : Value) : R0 E (rn0 f v) u ↔ R0 (E.via f) v u := by
  unfold rn0
  split
  · rename_i n o
    split
    · rename_i c sh hc
      constructor
      · rintro ⟨l, hl, rfl⟩; exact ⟨_, via_at hc hl, by simp [Loc.shift, Nat.add_assoc]⟩
      · rintro ⟨l, hl, rfl⟩
        obtain ⟨c', sh, l0, h1, h2, rfl⟩ := via_inv hl
        rw [hc] at h1; injection h1 with h1; injection h1 with h1 h3; subst h1; subst h3
        exact ⟨l0, h2, by simp [Loc.shift, Nat.add_assoc]⟩
    · rename_i hc
      constructor
      · intro h; exact h.elim
      · rintro ⟨l, hl, rfl⟩
        obtain ⟨c', sh, l0, h1, h2, rfl⟩ := via_inv hl
        rw [hc] at h1; cases h1
  · rename_i n o k cp
    split
    · rename_i c sh hc
      constructor
      · rintro ⟨l, hl, rfl⟩; exact ⟨_, via_at hc hl, by simp [Loc.shift, Nat.add_assoc, Nat.sub_sub]⟩
      · rintro ⟨l, hl, rfl⟩
        obtain ⟨c', sh, l0, h1, h2, rfl⟩ := via_inv hl
        rw [hc] at h1; injection h1 with h1; injection h1 with h1 h3; subst h1; subst h3
        exact ⟨l0, h2, by simp [Loc.shift, Nat.add_assoc, Nat.sub_sub]⟩
    · rename_i hc
      constructor
      · intro h; exact h.elim
      · rintro ⟨l, hl, rfl⟩
        obtain ⟨c', sh, l0, h1, h2, rfl⟩ := via_inv hl
        rw [hc] at h1; cases h1
  · rename_i r
    split
    · rename_i c sh hc
      constructor
      · rintro ⟨l, hl, rfl⟩; exact ⟨_, via_at hc hl, by simp [Loc.shift]⟩
      · rintro ⟨l, hl, rfl⟩
        obtain ⟨c', sh, l0, h1, h2, rfl⟩ := via_inv hl
        rw [hc] at h1; injection h1 with h1; injection h1 with h1 h3; subst h1; subst h3
        exact ⟨l0, h2, by simp [Loc.shift]⟩
    · rename_i hc
      constructor
      · intro h; exact h.elim
      · rintro ⟨l, hl, rfl⟩
        obtain ⟨c', sh, l0, h1, h2, rfl⟩ := via_inv hl
        rw [hc] at h1; cases h1
  · rename_i h1 h2 h3
    unfold R0
    split <;> first
      | exact absurd rfl (h1 _ _)
      | exact absurd rfl (h2 _ _ _ _)
      | exact absurd rfl (h3 _)
      | exact Iff.rfl
theorem AR_rn {R R' : Value → Value → Prop} {g : Value → Value} (h : ∀ v u, R (g v) u ↔ R' v u) (cs ds : Array Value) : AR R (cs.map g) ds ↔ AR R' cs ds := by
  constructor
  · rintro ⟨h1, h2⟩
    refine ⟨by simpa using h1, fun i v hv => ?_⟩
    obtain ⟨u, hu, hr⟩ := h2 i (g v) (by simp [hv])
    exact ⟨u, hu, (h _ _).1 hr⟩
  · rintro ⟨h1, h2⟩
    refine ⟨by simpa using h1, fun i v hv => ?_⟩
    simp only [Array.getElem?_map, Option.map_eq_some_iff] at hv
    obtain ⟨x, hx, rfl⟩ := hv
    obtain ⟨u, hu, hr⟩ := h2 i x hx
    exact ⟨u, hu, (h _ _).2 hr⟩
theorem rn0_func (f : Nm) : ∀ v : Value, (∀ g a b, v ≠ .func (.func g) a b) → ∀ g a b, rn0 f v ≠ .func (.func g) a b := by
  intro v h g a b
  unfold rn0
  split <;> (try split) <;> first | exact h g a b | (intro e; cases e)
theorem R1_rn (E : Env) (f : Nm) (v u : Value) : R1 E (rn1 f v) u ↔ R1 (E.via f) v u := by
  unfold rn1
  split
  · rename_i g a b
    constructor
    · rintro ⟨a', b', h1, h2, h3⟩; exact ⟨a', b', h1, (AR_rn (R0_rn E f) _ _).1 h2, (AR_rn (R0_rn E f) _ _).1 h3⟩
    · rintro ⟨a', b', h1, h2, h3⟩; exact ⟨a', b', h1, (AR_rn (R0_rn E f) _ _).2 h2, (AR_rn (R0_rn E f) _ _).2 h3⟩
  · rename_i h
    have h' := rn0_func f v (fun g a b e => h g a b e)
    unfold R1
    split
    · rename_i g a b he; exact absurd he (h' g a b)
    · exact R0_rn E f _ _
theorem rn1_agg (f : Nm) : ∀ v : Value, (∀ cs, v ≠ .agg cs) → ∀ cs, rn1 f v ≠ .agg cs := by
  intro v h cs
  unfold rn1
  split
  · intro e; cases e
  · unfold rn0
    split <;> (try split) <;> first | exact h cs | (intro e; cases e)
theorem R2_rn (E : Env) (f : Nm) (v u : Value) : R2 E (rn2 f v) u ↔ R2 (E.via f) v u := by
  unfold rn2
  split
  · constructor
    · rintro ⟨ds, h1, h2⟩; exact ⟨ds, h1, (AR_rn (R1_rn E f) _ _).1 h2⟩
    · rintro ⟨ds, h1, h2⟩; exact ⟨ds, h1, (AR_rn (R1_rn E f) _ _).2 h2⟩
  · rename_i h
    have h' := rn1_agg f v (fun cs e => h cs e)
    unfold R2
    split
    · rename_i cs he; exact absurd he (h' cs)
    · exact R1_rn E f _ _
theorem rn2_tuple (f : Nm) : ∀ v : Value, (∀ cs, v ≠ .tuple cs) → ∀ cs, rn2 f v ≠ .tuple cs := by
  intro v h cs
  unfold rn2
  split
  · intro e; cases e
  · unfold rn1
    split
    · intro e; cases e
    · unfold rn0
      split <;> (try split) <;> first | exact h cs | (intro e; cases e)
theorem R3_rn (E : Env) (f : Nm) (v u : Value) : R3 E (rn3 f v) u ↔ R3 (E.via f) v u := by
  unfold rn3
  split
  · constructor
    · rintro ⟨ds, h1, h2⟩; exact ⟨ds, h1, (AR_rn (R2_rn E f) _ _).1 h2⟩
    · rintro ⟨ds, h1, h2⟩; exact ⟨ds, h1, (AR_rn (R2_rn E f) _ _).2 h2⟩
  · rename_i h
    have h' := rn2_tuple f v (fun cs e => h cs e)
    unfold R3
    split
    · rename_i cs he; exact absurd he (h' cs)
    · exact R2_rn E f _ _
/-- The callee's block, told of the caller's. -/
def CB (f : Nm) (sh : Nat) : ABlk → ABlk → Prop
  | .cells C opn rw, b0 => ∃ C0 opn0, b0 = .cells C0 opn0 rw ∧ sh + C.size ≤ C0.size ∧ (opn = false → opn0 = false ∧ sh + C.size = C0.size) ∧ ∀ (i : Nat) v, C[i]? = some v → C0[sh + i]? = some (rn1 f v)
  | .map es clock, b0 => b0 = .map (es.map fun e => { e with key := rn2 f e.key, val := rn2 f e.val }) clock ∧ sh = 0
theorem CB.rw {f : Nm} {sh : Nat} {b b0 : ABlk} (h : CB f sh b b0) : b0.rw = b.rw := by
  cases b with
  | cells C opn rw => obtain ⟨C0, opn0, rfl, _⟩ := h; rfl
  | map es c => rw [h.1]; rfl
theorem CB.down {E : Env} {f : Nm} {sh : Nat} {l : Loc} {o : Option Obj} {b b0 : ABlk} (h : CB f sh b b0) (hb : BRep E l o b0) : BRep (E.via f) (l.shift sh) o b := by
  cases b with
  | cells C opn rw =>
    obtain ⟨C0, opn0, rfl, h1, h2, h3⟩ := h
    obtain ⟨D, t, fz, ho, g1, g2, g3, g4, g5⟩ := hb
    refine ⟨D, t, fz, ho, ?_, ?_, ?_, g4, fun i v hv => ?_⟩
    · simp only [Loc.shift]; omega
    · simp only [Loc.shift]; omega
    · intro ho'; have := g3 (h2 ho').1; have := (h2 ho').2; simp only [Loc.shift]; omega
    · obtain ⟨u, hu, hr⟩ := g5 _ _ (h3 i v hv)
      refine ⟨u, ?_, (R1_rn E f v u).1 hr⟩
      simp only [Loc.shift]
      rw [← hu, Nat.add_assoc]
  | map es c =>
    obtain ⟨rfl, rfl⟩ := h
    obtain ⟨es', ho, h1, h2⟩ := hb
    refine ⟨es', ho, by simpa using h1, fun i e he => ?_⟩
    obtain ⟨e', h3, h4, h5, h6⟩ := h2 i { e with key := rn2 f e.key, val := rn2 f e.val } (by simp [he])
    exact ⟨e', h3, h4, (R2_rn E f _ _).1 h5, (R2_rn E f _ _).1 h6⟩
/-- And back: with no shift. -/
def UB (f : Nm) : ABlk → ABlk → Prop
  | .cells C opn rw, b0 => ∃ C0, b0 = .cells C0 opn rw ∧ C.size = C0.size ∧ ∀ (i : Nat) v, C0[i]? = some v → ∃ x, C[i]? = some x ∧ v = rn1 f x
  | .map es clock, b0 => b0 = .map (es.map fun e => { e with key := rn2 f e.key, val := rn2 f e.val }) clock
theorem UB.rw {f : Nm} {b b0 : ABlk} (h : UB f b b0) : b0.rw = b.rw := by
  cases b with
  | cells C opn rw => obtain ⟨C0, rfl, _⟩ := h; rfl
  | map es c => rw [show b0 = _ from h]; rfl
theorem UB.up {E : Env} {f : Nm} {l : Loc} {o : Option Obj} {b b0 : ABlk} (h : UB f b b0) (hb : BRep (E.via f) l o b) : BRep E l o b0 := by
  cases b with
  | cells C opn rw =>
    obtain ⟨C0, rfl, h1, h2⟩ := h
    obtain ⟨D, t, fz, ho, g1, g2, g3, g4, g5⟩ := hb
    refine ⟨D, t, fz, ho, g1, by omega, fun h => by rw [← h1]; exact g3 h, g4, fun i v hv => ?_⟩
    obtain ⟨x, hx, rfl⟩ := h2 i v hv
    obtain ⟨u, hu, hr⟩ := g5 i x hx
    exact ⟨u, hu, (R1_rn E f x u).2 hr⟩
  | map es c =>
    rw [show b0 = _ from h]
    obtain ⟨es', ho, h1, h2⟩ := hb
    refine ⟨es', ho, by simpa using h1, fun i e he => ?_⟩
    simp only [Array.getElem?_map, Option.map_eq_some_iff] at he
    obtain ⟨x, hx, rfl⟩ := he
    obtain ⟨e', h3, h4, h5, h6⟩ := h2 i x hx
    exact ⟨e', h3, h4, (R2_rn E f _ _).2 h5, (R2_rn E f _ _).2 h6⟩
/-- Every name its own. -/
def idN : Nm := fun n => some (n, 0)
theorem rn0_id (v : Value) : rn0 idN v = v := by
  unfold rn0 idN
  split <;> simp
theorem map_id_of {g : Value → Value} (h : ∀ v, g v = v) (cs : Array Value) : cs.map g = cs := by
  have : g = id := funext h
  rw [this]; simp
theorem rn1_id (v : Value) : rn1 idN v = v := by
  unfold rn1
  split
  · rw [map_id_of rn0_id, map_id_of rn0_id]
  · exact rn0_id v
theorem rn2_id (v : Value) : rn2 idN v = v := by
  unfold rn2
  split
  · rw [map_id_of rn1_id]
  · exact rn1_id v
theorem rn3_id (v : Value) : rn3 idN v = v := by
  unfold rn3
  split
  · rw [map_id_of rn2_id]
  · exact rn2_id v
theorem CB.refl (b : ABlk) : CB idN 0 b b := by
  cases b with
  | cells C opn rw => exact ⟨C, opn, rfl, by omega, fun h => ⟨h, by omega⟩, fun i v hv => by rw [rn1_id, Nat.zero_add]; exact hv⟩
  | map es c =>
    refine ⟨?_, rfl⟩
    congr 1
    apply Array.ext_getElem?
    intro i
    rw [Array.getElem?_map]
    cases es[i]? with
    | none => rfl
    | some e => simp [rn2_id]
theorem Loc.shift0 (l : Loc) : l.shift 0 = l := by cases l; simp [Loc.shift]
theorem via_ren {E : Env} {σ : Nat → Nat} (n : Nat) : E.via (fun n => some (σ n, 0)) n = E (σ n) := by
  unfold Env.via
  cases h : E (σ n) with
  | none => simp [h]
  | some l => simp [h, Loc.shift0]
end Go.Proofs.YtbfakdpnefhgkaaDoor.Sl
