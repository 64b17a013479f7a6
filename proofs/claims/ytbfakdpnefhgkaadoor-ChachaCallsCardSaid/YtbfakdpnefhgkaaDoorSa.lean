/-
  Memory told by names: what is known of some blocks, whatever their numbers are. Plain lemmas, over any program.
-/
import Derived.Test.YtbfakdpnefhgkaaDoorMem
import Derived.Test.YtbfakdpnefhgkaaDoorTb
set_option linter.unusedSimpArgs false
set_option linter.unusedVariables false
namespace Go.Proofs.YtbfakdpnefhgkaaDoor.Sl
open Go Go.RowKit Bv Mem
/-- Where a name lies: its block, the cell of it that counts as the first, and how many cells there are from there on. -/
structure Loc where
  blk : Nat
  base : Nat
  top : Nat
abbrev Env := Nat → Option Loc
/-- The capacity that stands for 'as far as the block goes'. -/
def capU : Nat := 18446744073709551616
/-- Names from here on are package-level variables'. -/
def GB : Nat := 1000000
/-- Cells one by one. -/
def AR (R : Value → Value → Prop) (cs ds : Array Value) : Prop := cs.size = ds.size ∧ ∀ (i : Nat) v, cs[i]? = some v → ∃ u, ds[i]? = some u ∧ R v u
theorem AR.mono {R R' : Value → Value → Prop} (h : ∀ v u, R v u → R' v u) {cs ds : Array Value} (hr : AR R cs ds) : AR R' cs ds :=
  ⟨hr.1, fun i v hv => let ⟨u, hu, hR⟩ := hr.2 i v hv; ⟨u, hu, h _ _ hR⟩⟩
/-- The capacity that is meant: a number, or (from capU on) as many elements of so many cells as there are. -/
def capOf (t c : Nat) : Nat := if capU ≤ c then t / (c - capU) else c
/-- A told value stands for a value: names read where the table says. -/
def R0 (E : Env) : Value → Value → Prop
  | .pointer (some ⟨n, o, none⟩), u => ∃ l, E n = some l ∧ u = .pointer (some ⟨l.blk, l.base + o, none⟩)
  | .pointer (some ⟨_, _, some _⟩), _ => False
  | .slice (some ⟨n, o, none⟩) k c, u => ∃ l, E n = some l ∧ u = .slice (some ⟨l.blk, l.base + o, none⟩) k (capOf (l.top - o) c)
  | .slice (some ⟨_, _, some _⟩) _ _, _ => False
  | .map (some r), u => ∃ l, E r = some l ∧ u = .map (some l.blk)
  | .chan (some _), _ => False
  | .func _ _ _, _ => False
  | .iface _ _, _ => False
  | .agg _, _ => False
  | .tuple _, _ => False
  | v, u => u = v
def R1 (E : Env) : Value → Value → Prop
  | .func (.func f) a b, u => ∃ a' b', u = .func (.func f) a' b' ∧ AR (R0 E) a a' ∧ AR (R0 E) b b'
  | v, u => R0 E v u
def R2 (E : Env) : Value → Value → Prop
  | .agg cs, u => ∃ ds, u = .agg ds ∧ AR (R1 E) cs ds
  | v, u => R1 E v u
def R3 (E : Env) : Value → Value → Prop
  | .tuple cs, u => ∃ ds, u = .tuple ds ∧ AR (R2 E) cs ds
  | v, u => R2 E v u
/-- One table says of some names what the other says. -/
def Agree (S : Nat → Prop) (E E' : Env) : Prop := ∀ n l, S n → E n = some l → E' n = some l
/-- All names in a value are of these. -/
def N0 (S : Nat → Prop) : Value → Prop
  | .pointer (some a) => S a.block
  | .slice (some a) _ _ => S a.block
  | .map (some r) => S r
  | _ => True
def NA (R : Value → Prop) (cs : Array Value) : Prop := ∀ (i : Nat) v, cs[i]? = some v → R v
def N1 (S : Nat → Prop) : Value → Prop
  | .func _ a b => NA (N0 S) a ∧ NA (N0 S) b
  | v => N0 S v
def N2 (S : Nat → Prop) : Value → Prop
  | .agg cs => NA (N1 S) cs
  | v => N1 S v
def N3 (S : Nat → Prop) : Value → Prop
  | .tuple cs => NA (N2 S) cs
  | v => N2 S v
section
variable {S : Nat → Prop} {E E' : Env}
theorem R0.mono (h : Agree S E E') : ∀ {v u : Value}, N0 S v → R0 E v u → R0 E' v u := by
  intro v u hn hr
  unfold R0 at hr ⊢
  split at hr <;> first
    | exact hr.elim
    | (obtain ⟨l, hl, hu⟩ := hr; exact ⟨l, h _ _ hn hl, hu⟩)
    | exact hr
    | (split <;> simp_all)
theorem AR.monoN {R R' : Value → Value → Prop} {N : Value → Prop} (h : ∀ v u, N v → R v u → R' v u) {cs ds : Array Value} (hn : NA N cs) (hr : AR R cs ds) : AR R' cs ds :=
  ⟨hr.1, fun i v hv => let ⟨u, hu, hR⟩ := hr.2 i v hv; ⟨u, hu, h _ _ (hn i v hv) hR⟩⟩
theorem R1.mono (h : Agree S E E') {v u : Value} (hn : N1 S v) (hr : R1 E v u) : R1 E' v u := by
  unfold R1 at hr ⊢
  split at hr
  · obtain ⟨a', b', hu, ha, hb⟩ := hr
    exact ⟨a', b', hu, AR.monoN (N := N0 S) (fun v u hv hr => R0.mono h hv hr) hn.1 ha, AR.monoN (N := N0 S) (fun v u hv hr => R0.mono h hv hr) hn.2 hb⟩
  · rename_i hne
    have hn' : N0 S v := by
      unfold N1 at hn
      split at hn
      · rename_i fn a b
        unfold R0 at hr
        exact hr.elim
      · exact hn
    exact R0.mono h hn' hr
theorem R2.mono (h : Agree S E E') {v u : Value} (hn : N2 S v) (hr : R2 E v u) : R2 E' v u := by
  unfold R2 at hr ⊢
  split at hr
  · obtain ⟨ds, hu, ha⟩ := hr
    exact ⟨ds, hu, AR.monoN (N := N1 S) (fun v u hv hr => R1.mono h hv hr) hn ha⟩
  · rename_i hne
    have hn' : N1 S v := by
      unfold N2 at hn
      split at hn
      · exact absurd rfl (hne _)
      · exact hn
    exact R1.mono h hn' hr
theorem R3.mono (h : Agree S E E') {v u : Value} (hn : N3 S v) (hr : R3 E v u) : R3 E' v u := by
  unfold R3 at hr ⊢
  split at hr
  · obtain ⟨ds, hu, ha⟩ := hr
    exact ⟨ds, hu, AR.monoN (N := N2 S) (fun v u hv hr => R2.mono h hv hr) hn ha⟩
  · rename_i hne
    have hn' : N2 S v := by
      unfold N3 at hn
      split at hn
      · exact absurd rfl (hne _)
      · exact hn
    exact R2.mono h hn' hr
theorem N0.all (v : Value) : N0 (fun _ => True) v := by unfold N0; split <;> trivial
theorem N1.all (v : Value) : N1 (fun _ => True) v := by unfold N1; split <;> first | exact ⟨fun _ _ _ => N0.all _, fun _ _ _ => N0.all _⟩ | exact N0.all _
theorem N2.all (v : Value) : N2 (fun _ => True) v := by unfold N2; split <;> first | exact fun _ _ _ => N1.all _ | exact N1.all _
theorem N3.all (v : Value) : N3 (fun _ => True) v := by unfold N3; split <;> first | exact fun _ _ _ => N2.all _ | exact N2.all _
/-- The table grows. -/
def Env.le (E E' : Env) : Prop := ∀ n l, E n = some l → E' n = some l
theorem Env.le.agree (h : Env.le E E') : Agree (fun _ => True) E E' := fun n l _ hl => h n l hl
theorem Env.le.refl (E : Env) : Env.le E E := fun _ _ h => h
theorem Env.le.trans {E'' : Env} (h : Env.le E E') (h' : Env.le E' E'') : Env.le E E'' := fun n l hl => h' n l (h n l hl)
theorem R0.le (h : Env.le E E') {v u : Value} (hr : R0 E v u) : R0 E' v u := R0.mono h.agree (N0.all v) hr
theorem R1.le (h : Env.le E E') {v u : Value} (hr : R1 E v u) : R1 E' v u := R1.mono h.agree (N1.all v) hr
theorem R2.le (h : Env.le E E') {v u : Value} (hr : R2 E v u) : R2 E' v u := R2.mono h.agree (N2.all v) hr
theorem R3.le (h : Env.le E E') {v u : Value} (hr : R3 E v u) : R3 E' v u := R3.mono h.agree (N3.all v) hr
end
/-- What a block holds, so far as it is known: the first cells ('opn': there may be more), and whether it may be written. A map is known whole. -/
inductive ABlk where
  | cells (c : Array Value) (opn rw : Bool)
  | map (es : Array MapEntry) (clock : Nat)
def ABlk.rw : ABlk → Bool
  | .cells _ _ rw => rw
  | .map _ _ => true
def MR (E : Env) (es es' : Array MapEntry) : Prop :=
  es.size = es'.size ∧ ∀ (i : Nat) e, es[i]? = some e → ∃ e', es'[i]? = some e' ∧ e'.born = e.born ∧ R2 E e.key e'.key ∧ R2 E e.val e'.val
/-- None of the cells is frozen. -/
def Thaw (fz : Nat × Nat) (n : Nat) : Prop := ∀ i, i < n → ¬ (fz.1 ≤ i ∧ i < fz.2)
theorem thaw0 (n : Nat) : Thaw (0, 0) n := fun i _ h => by have := h.2; simp at this
def BRep (E : Env) (l : Loc) (o : Option Obj) : ABlk → Prop
  | .cells C opn rw => ∃ D t fz, o = some (.cells D t fz) ∧ l.base + l.top = D.size ∧ C.size ≤ l.top ∧ (opn = false → C.size = l.top) ∧ (rw = true → Thaw fz D.size) ∧ ∀ (i : Nat) v, C[i]? = some v → ∃ u, D[l.base + i]? = some u ∧ R1 E v u
  | .map es clock => ∃ es', o = some (.map es' clock) ∧ MR E es es'
abbrev Mem := List (Nat × Option ABlk)
def look {α : Type} : List (Nat × α) → Nat → Option α
  | [], _ => none
  | (k, b) :: m, n => bif Nat.beq k n then some b else look m n
theorem beq_ne {a b : Nat} (h : a ≠ b) : Nat.beq a b = false := by
  cases hb : Nat.beq a b with
  | false => rfl
  | true => exact absurd (Nat.eq_of_beq_eq_true hb) h
/-- What is told of a name's block; an entry 'none' says that nothing is. -/
def mfind : Mem → Nat → Option ABlk
  | [], _ => none
  | (k, b) :: m, n => bif Nat.beq k n then b else mfind m n
def mhas : Mem → Nat → Bool
  | [], _ => false
  | (k, _) :: m, n => bif Nat.beq k n then true else mhas m n
theorem mfind_cons (k : Nat) (b : Option ABlk) (m : Mem) (n : Nat) : mfind ((k, b) :: m) n = if k = n then b else mfind m n := by
  simp only [mfind]
  by_cases h : k = n
  · subst h; simp
  · rw [beq_ne h, if_neg h]; rfl
theorem look_cons {α : Type} (k : Nat) (b : α) (m : List (Nat × α)) (n : Nat) : look ((k, b) :: m) n = if k = n then some b else look m n := by
  simp only [look]
  by_cases h : k = n
  · subst h; simp
  · rw [beq_ne h, if_neg h]; rfl
theorem mfind_append (a m : Mem) (n : Nat) : mfind (a ++ m) n = bif mhas a n then mfind a n else mfind m n := by
  induction a with
  | nil => rfl
  | cons p a ih =>
    obtain ⟨k, b⟩ := p
    show (bif Nat.beq k n then b else mfind (a ++ m) n) = bif (bif Nat.beq k n then true else mhas a n) then (bif Nat.beq k n then b else mfind a n) else mfind m n
    cases Nat.beq k n
    · exact ih
    · rfl
theorem mhas_of_find {m : Mem} {n : Nat} {b : ABlk} (h : mfind m n = some b) : mhas m n = true := by
  induction m with
  | nil => cases h
  | cons p m ih =>
    obtain ⟨k, b'⟩ := p
    simp only [mfind, mhas] at h ⊢
    by_cases hk : k = n
    · subst hk; simp
    · rw [beq_ne hk] at h ⊢; exact ih h
/-- The world holds what is told. -/
structure Rep0 (E : Env) (m : Mem) (w : World) : Prop where
  at_ : ∀ n b, mfind m n = some b → ∃ l, E n = some l ∧ BRep E l w.heap[l.blk]? b
  far : ∀ n b n' b' l l', mfind m n = some b → mfind m n' = some b' → b.rw = true → E n = some l → E n' = some l' → l.blk = l'.blk → n = n'
  glob : ∀ g l, GB ≤ g → E g = some l → l.blk = g - GB ∧ l.base = 0
def Owned (E : Env) (m : Mem) (x : Nat) : Prop := ∃ n b l, mfind m n = some b ∧ b.rw = true ∧ E n = some l ∧ l.blk = x
/-- The package's tables lie where they lie, and are nobody's. -/
def TabOk (E : Env) (m : Mem) (w : World) : Prop := ∀ g C, (g, C) ∈ tabs → (∃ t fz, w.heap[g]? = some (.cells C t fz)) ∧ ¬ Owned E m g
structure Rep (E : Env) (m : Mem) (w : World) : Prop extends Rep0 E m w where
  tab : TabOk E m w
/-- What is not owned stays. -/
structure Kept (E : Env) (m : Mem) (w : World) (E' : Env) (m' : Mem) (w' : World) : Prop where
  os : w'.os = w.os
  tape : w'.tape = w.tape
  output : w'.output = w.output
  size : w.heap.size ≤ w'.heap.size
  keep : ∀ x, x < w.heap.size → ¬ Owned E m x → w'.heap[x]? = w.heap[x]? ∧ ¬ Owned E' m' x
theorem Kept.refl (E : Env) (m : Mem) (w : World) : Kept E m w E m w := ⟨rfl, rfl, rfl, Nat.le_refl _, fun _ _ h => ⟨rfl, h⟩⟩
theorem Kept.trans {E E' E'' : Env} {m m' m'' : Mem} {w w' w'' : World} (h : Kept E m w E' m' w') (h' : Kept E' m' w' E'' m'' w'') : Kept E m w E'' m'' w'' :=
  ⟨h'.os.trans h.os, h'.tape.trans h.tape, h'.output.trans h.output, Nat.le_trans h.size h'.size, fun x hx ho =>
    let ⟨h1, h2⟩ := h.keep x hx ho
    let ⟨h3, h4⟩ := h'.keep x (Nat.lt_of_lt_of_le hx h.size) h2
    ⟨h3.trans h1, h4⟩⟩
theorem Kept.drew (E : Env) (m : Mem) (w : World) : Kept E m w E m w.drew := ⟨rfl, rfl, rfl, Nat.le_refl _, fun _ _ h => ⟨rfl, h⟩⟩
/-- Nothing owned: all that was there stays. -/
theorem Kept.below {E E' : Env} {m m' : Mem} {w w' : World} (h : Kept E m w E' m' w') (hm : ∀ n b, mfind m n = some b → b.rw = false) : Below w.heap.size w w' :=
  ⟨h.os, h.tape, h.output, h.size, fun k hk => (h.keep k hk (by rintro ⟨n, b, l, h1, h2, _⟩; rw [hm n b h1] at h2; cases h2)).1⟩
theorem BRep.le {E E' : Env} (h : Env.le E E') {l : Loc} {o : Option Obj} {b : ABlk} (hb : BRep E l o b) : BRep E' l o b := by
  cases b with
  | cells C opn rw =>
    obtain ⟨D, t, fz, ho, h1, h2, h3, h4, h5⟩ := hb
    exact ⟨D, t, fz, ho, h1, h2, h3, h4, fun i v hv => let ⟨u, hu, hr⟩ := h5 i v hv; ⟨u, hu, hr.le h⟩⟩
  | map es clock =>
    obtain ⟨es', ho, h1, h2⟩ := hb
    exact ⟨es', ho, h1, fun i e he => let ⟨e', h3, h4, h5, h6⟩ := h2 i e he; ⟨e', h3, h4, h5.le h, h6.le h⟩⟩
theorem BRep.lt {E : Env} {l : Loc} {w : World} {b : ABlk} (hb : BRep E l w.heap[l.blk]? b) : l.blk < w.heap.size := by
  cases b with
  | cells C opn rw => obtain ⟨D, t, fz, ho, _⟩ := hb; exact (Array.getElem?_eq_some_iff.1 ho).1
  | map es clock => obtain ⟨es', ho, _⟩ := hb; exact (Array.getElem?_eq_some_iff.1 ho).1
/-- A block may be told as one that is read alone. -/
theorem BRep.ro {E : Env} {l : Loc} {o : Option Obj} {C : Array Value} {opn rw : Bool} (hb : BRep E l o (.cells C opn rw)) : BRep E l o (.cells C opn false) := by
  obtain ⟨D, t, fz, ho, h1, h2, h3, h4, h5⟩ := hb
  exact ⟨D, t, fz, ho, h1, h2, h3, (fun h => by cases h), h5⟩
theorem Rep.drew {E : Env} {m : Mem} {w : World} (h : Rep E m w) : Rep E m w.drew := ⟨⟨h.at_, h.far, h.glob⟩, h.tab⟩
theorem TabOk.kept {E E' : Env} {m m' : Mem} {w w' : World} (h : TabOk E m w) (hk : Kept E m w E' m' w') : TabOk E' m' w' := by
  intro g C hg
  obtain ⟨⟨t, fz, h1⟩, h2⟩ := h g C hg
  obtain ⟨h3, h4⟩ := hk.keep g (Array.getElem?_eq_some_iff.1 h1).1 h2
  exact ⟨⟨t, fz, h3.trans h1⟩, h4⟩
theorem Owned.less {E : Env} {m m' : Mem} {x : Nat} (hm : ∀ n b, mfind m' n = some b → mfind m n = some b) (h : Owned E m' x) : Owned E m x := by
  obtain ⟨n, b, l, h1, h2⟩ := h
  exact ⟨n, b, l, hm _ _ h1, h2⟩
/-- Less may be told. -/
theorem Rep0.less {E : Env} {m m' : Mem} {w : World} (h : Rep0 E m w) (hm : ∀ n b, mfind m' n = some b → mfind m n = some b) : Rep0 E m' w :=
  ⟨fun n b hb => h.at_ n b (hm n b hb), fun n b n' b' l l' h1 h2 => h.far n b n' b' l l' (hm _ _ h1) (hm _ _ h2), h.glob⟩
theorem Rep.less {E : Env} {m m' : Mem} {w : World} (h : Rep E m w) (hm : ∀ n b, mfind m' n = some b → mfind m n = some b) : Rep E m' w :=
  ⟨h.toRep0.less hm, fun g C hg => ⟨(h.tab g C hg).1, fun ho => (h.tab g C hg).2 (ho.less hm)⟩⟩
/-- THE FRAME: what a piece does with some of the memory, it does with all of it. -/
theorem Rep0.frame {E E' : Env} {M M' m m' : Mem} {w w' : World} {new : List Nat} (hR : Rep0 E M w) (hle : Env.le E E') (hk : Kept E m w E' m' w') (hR' : Rep0 E' m' w') (hnew : ∀ n, n ∉ new → E' n = E n)
    (hsub : ∀ n b, mfind m n = some b → ∃ b0, mfind M n = some b0 ∧ (b.rw = true → b0.rw = true))
    (hro : ∀ n b, mfind m' n = some b → b.rw = false → ∃ b0, mfind m n = some b0)
    (hM' : ∀ n b, mfind M' n = some b → mfind m' n = some b ∨ (mfind M n = some b ∧ n ∉ new ∧ ∀ b0, mfind m n = some b0 → b0.rw = false)) : Rep0 E' M' w' := by
  have unowned : ∀ n b l, mfind M n = some b → (∀ b0, mfind m n = some b0 → b0.rw = false) → E n = some l → ¬ Owned E m l.blk := by
    rintro n b l h1 h2 h3 ⟨n0, b0, l0, g1, g2, g3, g4⟩
    obtain ⟨b1, k1, k2⟩ := hsub n0 b0 g1
    have e := hR.far n0 b1 n b l0 l k1 h1 (k2 g2) g3 h3 g4
    subst e
    rw [h2 b0 g1] at g2; cases g2
  refine ⟨fun n b hb => ?_, ?_, hR'.glob⟩
  · rcases hM' n b hb with h | ⟨h1, h2, h3⟩
    · exact hR'.at_ n b h
    · obtain ⟨l, hl, hB⟩ := hR.at_ n b h1
      refine ⟨l, hle n l hl, ?_⟩
      rw [(hk.keep l.blk hB.lt (unowned n b l h1 h3 hl)).1]
      exact hB.le hle
  · intro n b n' b' l l' h1 h2 hrw hl hl' hblk
    rcases hM' n b h1 with a1 | ⟨a1, a2, a3⟩
    · rcases hM' n' b' h2 with c1 | ⟨c1, c2, c3⟩
      · exact hR'.far n b n' b' l l' a1 c1 hrw hl hl' hblk
      · rw [hnew n' c2] at hl'
        obtain ⟨l2, hl2, hB⟩ := hR.at_ n' b' c1
        rw [hl'] at hl2
        injection hl2 with hl2
        subst hl2
        exact absurd ⟨n, b, l, a1, hrw, hl, hblk⟩ (hk.keep l'.blk hB.lt (unowned n' b' l' c1 c3 hl')).2
    · rw [hnew n a2] at hl
      obtain ⟨l2, hl2, hB⟩ := hR.at_ n b a1
      rw [hl] at hl2
      injection hl2 with hl2
      subst hl2
      have hun := unowned n b l a1 a3 hl
      rcases hM' n' b' h2 with c1 | ⟨c1, c2, c3⟩
      · cases hrw' : b'.rw with
        | true => exact absurd ⟨n', b', l', c1, hrw', hl', hblk.symm⟩ (hk.keep l.blk hB.lt hun).2
        | false =>
          obtain ⟨b0, hb0⟩ := hro n' b' c1 hrw'
          obtain ⟨b1, hb1, _⟩ := hsub n' b0 hb0
          obtain ⟨l3, hl3, _⟩ := hR.at_ n' b1 hb1
          have := (hle n' l3 hl3).symm.trans hl'
          injection this with this
          subst this
          exact hR.far n b n' b1 l l3 a1 hb1 hrw hl hl3 hblk
      · rw [hnew n' c2] at hl'
        exact hR.far n b n' b' l l' a1 c1 hrw hl hl' hblk
theorem Kept.frame {E E' : Env} {M M' m m' : Mem} {w w' : World} {new : List Nat} (hR : Rep0 E M w) (hle : Env.le E E') (hk : Kept E m w E' m' w') (hnew : ∀ n, n ∉ new → E' n = E n)
    (hsub : ∀ n b, mfind m n = some b → ∃ b0, mfind M n = some b0 ∧ (b.rw = true → b0.rw = true))
    (hM' : ∀ n b, mfind M' n = some b → mfind m' n = some b ∨ (mfind M n = some b ∧ n ∉ new ∧ ∀ b0, mfind m n = some b0 → b0.rw = false)) : Kept E M w E' M' w' := by
  have up : ∀ x, Owned E m x → Owned E M x := by
    rintro x ⟨n, b, l, h1, h2, h3, h4⟩
    obtain ⟨b0, g1, g2⟩ := hsub n b h1
    exact ⟨n, b0, l, g1, g2 h2, h3, h4⟩
  refine ⟨hk.os, hk.tape, hk.output, hk.size, fun x hx ho => ?_⟩
  obtain ⟨h1, h2⟩ := hk.keep x hx (fun h => ho (up x h))
  refine ⟨h1, ?_⟩
  rintro ⟨n, b, l, g1, g2, g3, g4⟩
  rcases hM' n b g1 with a | ⟨a1, a2, a3⟩
  · exact h2 ⟨n, b, l, a, g2, g3, g4⟩
  · rw [hnew n a2] at g3
    exact ho ⟨n, b, l, a1, g2, g3, g4⟩
theorem Rep.frame {E E' : Env} {M M' m m' : Mem} {w w' : World} {new : List Nat} (hR : Rep E M w) (hle : Env.le E E') (hk : Kept E m w E' m' w') (hR' : Rep0 E' m' w') (hnew : ∀ n, n ∉ new → E' n = E n)
    (hsub : ∀ n b, mfind m n = some b → ∃ b0, mfind M n = some b0 ∧ (b.rw = true → b0.rw = true))
    (hro : ∀ n b, mfind m' n = some b → b.rw = false → ∃ b0, mfind m n = some b0)
    (hM' : ∀ n b, mfind M' n = some b → mfind m' n = some b ∨ (mfind M n = some b ∧ n ∉ new ∧ ∀ b0, mfind m n = some b0 → b0.rw = false)) : Rep E' M' w' :=
  ⟨hR.toRep0.frame hle hk hR' hnew hsub hro hM', hR.tab.kept (Kept.frame hR.toRep0 hle hk hnew hsub hM')⟩
end Go.Proofs.YtbfakdpnefhgkaaDoor.Sl
