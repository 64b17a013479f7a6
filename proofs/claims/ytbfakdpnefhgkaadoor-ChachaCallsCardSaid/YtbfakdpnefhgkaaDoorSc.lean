/-
  Names read under other names; calls of functions by contract. Plain lemmas, over any program.
-/
import Derived.Test.YtbfakdpnefhgkaaDoorSb
set_option linter.unusedSimpArgs false
set_option linter.unusedVariables false
namespace Go.Proofs.YtbfakdpnefhgkaaDoor.Sl
open Go Go.RowKit Bv Mem
/-- The callee's names 0, 1, ..: the caller's, in a row; the package's variables are their own. -/
def sg (l : List (Nat × Nat)) : Nm := fun n => bif Nat.ble GB n then some (n, 0) else l[n]?
/-- And what the callee made: its own name, the caller's. -/
def sgN (l : List (Nat × Nat)) (nw : List (Nat × Nat)) : Nm := fun n => match look nw n with
  | some c => some (c, 0)
  | none => sg l n
/-- What the caller hands on of its memory. -/
structure Hand (l : List (Nat × Nat)) (m m0 : Mem) : Prop where
  blk : ∀ n b, mfind m n = some b → ∃ c sh b0, sg l n = some (c, sh) ∧ mfind m0 c = some b0 ∧ CB (sg l) sh b b0
  inj : ∀ n b n' b' c sh sh', mfind m n = some b → mfind m n' = some b' → b.rw = true → sg l n = some (c, sh) → sg l n' = some (c, sh') → n = n'
  rw : ∀ c b0, mfind m0 c = some b0 → b0.rw = true → ∃ n b, mfind m n = some b ∧ b.rw = true ∧ sg l n = some (c, 0)
/-- What it gets back. -/
structure Take (l : List (Nat × Nat)) (nw : List (Nat × Nat)) (m0 m' m0' : Mem) : Prop where
  blk : ∀ c b0, mfind m0' c = some b0 → ∃ n b, sgN l nw n = some (c, 0) ∧ mfind m' n = some b ∧ b.rw = true ∧ UB (sgN l nw) b b0 ∧ NB (fun n => sgN l nw n ≠ none) b
  all : ∀ c b0, mfind m0 c = some b0 → b0.rw = true → mhas m0' c = true
theorem nodup_look {l : List (Nat × Nat)} {n c : Nat} (h : look l n = some c) : c ∈ l.map (·.2) := by
  induction l with
  | nil => cases h
  | cons p l ih =>
    obtain ⟨k, b⟩ := p
    rw [look_cons] at h
    by_cases hk : k = n
    · rw [if_pos hk] at h; injection h with h; subst h; simp
    · rw [if_neg hk] at h; simp [ih h]
theorem nodup_look_inj {l : List (Nat × Nat)} (hn : (l.map (·.2)).Nodup) {n n' c : Nat} (h : look l n = some c) (h' : look l n' = some c) : n = n' := by
  induction l with
  | nil => cases h
  | cons p l ih =>
    obtain ⟨k, b⟩ := p
    simp only [List.map_cons, List.nodup_cons] at hn
    rw [look_cons] at h h'
    by_cases hk : k = n
    · rw [if_pos hk] at h; injection h with h; subst h
      by_cases hk' : k = n'
      · omega
      · rw [if_neg hk'] at h'; exact absurd (nodup_look h') hn.1
    · rw [if_neg hk] at h
      by_cases hk' : k = n'
      · rw [if_pos hk'] at h'; injection h' with h'; subst h'; exact absurd (nodup_look h) hn.1
      · rw [if_neg hk'] at h'; exact ih hn.2 h h'
/-- The value in which the call ends, and the caller's memory, as the caller tells them. -/
structure CallK (l : List (Nat × Nat)) (nx : Nat) (m0 : Mem) (new : List Nat) (v : Value) (m' : Mem) (V : Value) (M0' : Mem) : Prop where
  nw : ∃ nw : List (Nat × Nat), nw.map (·.2) = new ∧ (∀ n c, look nw n = some c → nx ≤ n ∧ n < GB) ∧ V = rn3 (sgN l nw) v ∧ N3 (fun n => sgN l nw n ≠ none) v ∧ Take l nw m0 m' M0'
theorem LocalOp.call {P : Program} {o : Oper} {fr : Fr} {f nx : Nat} {args : List Value} {m m0 : Mem} {K : Value → Mem → Prop} {new : List Nat} {Kc : Value → Mem → Prop} {xs : List Operand} {ts : Array TypeId} (l : List (Nat × Nat))
    (hc : Fc P f nx args m K) (ho : o.op = .call { callee := .value (.func f), args := xs.toArray, argTypes := ts }) {fn : Func} (hf : P.funcs[f]? = some fn) (hb : fn.body.isNone = false) (hname : (fn.name == "runtime.NumGoroutine") = false)
    (hl : l.length = nx) (hx : xs.map (aeval fr) = args.map fun v => some (rn3 (sg l) v)) (hh : Hand l m m0) (hlow : ∀ p, p ∈ l → p.1 < GB ∧ p.1 ∉ new) (hnew : new.Nodup) (hlt : ∀ n, n ∈ new → n < GB)
    (hk : ∀ v m', K v m' → ∃ V M0', Kc V M0' ∧ CallK l nx m0 new v m' V M0') : LocalOp P o fr m0 new Kc := by
  intro E a w hev hrep hfresh next Q hnext
  have hrun : (execOp a.eval o).run P w = .ok (.enter f (xs.map a.eval).toArray) w := by
    have hname' : fn.name ≠ "runtime.NumGoroutine" := by simpa using hname
    have hb' : fn.body ≠ none := by cases hq : fn.body <;> simp_all
    unfold execOp
    simp [ho, resolve, Deferred.ofValue, Act.eval, invoke, callFunc, hf, hb', hname']
  unfold Oper.wp
  rw [hrun, Oper.upon_enter]
  have hsg : ∀ n c sh, sg l n = some (c, sh) → (GB ≤ n ∧ c = n ∧ sh = 0) ∨ (n < nx ∧ n < GB ∧ c < GB ∧ c ∉ new) := by
    intro n c sh h
    unfold sg at h
    cases hb : Nat.ble GB n with
    | true => rw [hb] at h; simp at h; exact .inl ⟨Nat.le_of_ble_eq_true hb, h.1.symm, h.2.symm⟩
    | false =>
      rw [hb] at h
      have hlt : n < GB := by
        rcases Nat.lt_or_ge n GB with h' | h'
        · exact h'
        · rw [Nat.ble_eq_true_of_le h'] at hb; cases hb
      have hm := List.mem_of_getElem? h
      have h' := (List.getElem?_eq_some_iff.1 h).1
      exact .inr ⟨by omega, hlt, (hlow _ hm).1, (hlow _ hm).2⟩
  -- the callee's table
  have hargs : AR (R3 (E.via (sg l))) args.toArray (xs.map a.eval).toArray := by
    have hlen : xs.length = args.length := by have := congrArg List.length hx; simpa using this
    refine ⟨by simp [hlen], fun i v hv => ?_⟩
    have hv' : args[i]? = some v := by simpa using hv
    have hi : i < args.length := (List.getElem?_eq_some_iff.1 hv').1
    have hxi : xs[i]? = some xs[i] := List.getElem?_eq_getElem (by omega)
    have := congrArg (·[i]?) hx
    simp only [List.getElem?_map, hxi, hv', Option.map_some] at this
    injection this with this
    exact ⟨a.eval xs[i], by simp [hxi], (R3_rn E (sg l) v _).1 (hev _ (by rw [ho]; simp [Op.operands, Call.operands]) _ this)⟩
  have ownUp : ∀ x, Owned (E.via (sg l)) m x → Owned E m0 x := by
    rintro x ⟨n, b, lc, h1, h2, h3, h4⟩
    obtain ⟨c, sh, l0, g1, g2, rfl⟩ := via_inv h3
    obtain ⟨c1, sh1, b0, k1, k2, k3⟩ := hh.blk n b h1
    rw [g1] at k1; injection k1 with k1; injection k1 with e1 e2; subst e1; subst e2
    exact ⟨c, b0, l0, k2, k3.rw.trans h2, g2, h4⟩
  have hm : Rep (E.via (sg l)) m w := by
    refine ⟨⟨fun n b hb => ?_, ?_, ?_⟩, fun g C hg => ⟨(hrep.tab g C hg).1, fun ho => (hrep.tab g C hg).2 (ownUp g ho)⟩⟩
    · obtain ⟨c, sh, b0, h1, h2, h3⟩ := hh.blk n b hb
      obtain ⟨lc, hlc, hB⟩ := hrep.at_ c b0 h2
      exact ⟨_, via_at h1 hlc, h3.down hB⟩
    · intro n b n' b' lc lc' h1 h2 hrw hl1 hl2 hblk
      obtain ⟨c, sh, l0, g1, g2, rfl⟩ := via_inv hl1
      obtain ⟨c', sh', l0', g1', g2', rfl⟩ := via_inv hl2
      obtain ⟨c1, sh1, b0, k1, k2, k3⟩ := hh.blk n b h1
      obtain ⟨c2, sh2, b0', k1', k2', k3'⟩ := hh.blk n' b' h2
      rw [g1] at k1; injection k1 with k1; injection k1 with e1 e2; subst e1; subst e2
      rw [g1'] at k1'; injection k1' with k1'; injection k1' with e1 e2; subst e1; subst e2
      have := hrep.far c b0 c' b0' l0 l0' k2 k2' (k3.rw.trans hrw) g2 g2' hblk
      subst this
      exact hh.inj n b n' b' c sh sh' h1 h2 hrw g1 g1'
    · intro g lc hg hl1
      obtain ⟨c, sh, l0, g1, g2, rfl⟩ := via_inv hl1
      rcases hsg g c sh g1 with ⟨_, rfl, rfl⟩ | ⟨_, h, _⟩
      · exact hrep.glob c l0 hg g2
      · omega
  have hfr : ∀ n, nx ≤ n → n < GB → E.via (sg l) n = none := by
    intro n h1 h2
    cases hE : E.via (sg l) n with
    | none => rfl
    | some lc =>
      obtain ⟨c, sh, l0, g1, _⟩ := via_inv hE
      rcases hsg n c sh g1 with ⟨h, _⟩ | ⟨h, _⟩ <;> omega
  refine (hc _ _ w hargs hm hfr).mono ?_
  rintro e w' ⟨Ec, v, m', u, hK, rfl, hR, hrep', hst⟩
  obtain ⟨V, M0', hKc, ⟨nw, hnw, hnwl, rfl, hN3, htake⟩⟩ := hk v m' hK
  -- the caller's new table
  let E' : Env := fun n => match nw.find? (fun p => p.2 == n) with
    | some p => Ec p.1
    | none => E n
  have hold : ∀ n, n ∉ new → E' n = E n := by
    intro n hn
    have : nw.find? (fun p => p.2 == n) = none := by
      rw [List.find?_eq_none]
      intro p hp hpn
      exact hn (by rw [← hnw]; exact List.mem_map.2 ⟨p, hp, by simpa using hpn⟩)
    simp only [E', this]
  have hnd : (nw.map (·.2)).Nodup := by rw [hnw]; exact hnew
  have hnewE : ∀ n c, look nw n = some c → E' c = Ec n := by
    intro n c hl
    have key : ∀ (l : List (Nat × Nat)), (l.map (·.2)).Nodup → look l n = some c → l.find? (fun p => p.2 == c) = some (n, c) := by
      intro l
      induction l with
      | nil => intro _ h; cases h
      | cons p l ih =>
        obtain ⟨k, b⟩ := p
        intro hnd h
        simp only [List.map_cons, List.nodup_cons] at hnd
        rw [look_cons] at h
        by_cases hk : k = n
        · rw [if_pos hk] at h; injection h with h; subst h; subst hk; simp
        · rw [if_neg hk] at h
          have hne : b ≠ c := fun e => hnd.1 (e ▸ nodup_look h)
          rw [List.find?_cons_of_neg (by simpa using hne)]
          exact ih hnd.2 h
    have := key nw hnd hl
    simp only [E', this]
  have hle : Env.le E E' := by
    intro n lc hn
    rw [hold n (fun h => by rw [(hfresh n h).1] at hn; cases hn)]
    exact hn
  -- what the callee's table says of the names that the caller knows
  have hlowS : ∀ n c sh, sg l n = some (c, sh) → Low nx n ∧ c ∉ new := by
    intro n c sh hs
    rcases hsg n c sh hs with ⟨h, rfl, _⟩ | ⟨h1, _, _, h⟩
    · exact ⟨.inr h, fun hc' => by have := hlt c hc'; omega⟩
    · exact ⟨.inl h1, h⟩
  have hag : Agree (fun n => sgN l nw n ≠ none) Ec (E'.via (sgN l nw)) := by
    intro n lc hn hlc
    cases hlk : look nw n with
    | some c =>
      refine (via_at (f := sgN l nw) (c := c) (sh := 0) (by simp [sgN, hlk]) ((hnewE n c hlk).trans hlc)).trans ?_
      simp [Loc.shift]
    | none =>
      have hn' : sg l n ≠ none := by simpa [sgN, hlk] using hn
      cases hs : sg l n with
      | none => exact absurd hs hn'
      | some p =>
        obtain ⟨c, sh⟩ := p
        obtain ⟨hlw, hcn⟩ := hlowS n c sh hs
        have h2 := hst.agree n hlw
        rw [hlc] at h2
        obtain ⟨c', sh', l0, g1, g2, rfl⟩ := via_inv h2.symm
        rw [hs] at g1; injection g1 with g1; injection g1 with e1 e2; subst e1; subst e2
        exact via_at (f := sgN l nw) (by simp [sgN, hlk, hs]) ((hold c hcn).trans g2)
  have locs : ∀ n c lc, sgN l nw n = some (c, 0) → E' c = some lc → Ec n = some lc := by
    intro n c lc hn hE'
    cases hlk : look nw n with
    | some c' =>
      have : c' = c := by simpa [sgN, hlk] using hn
      subst this
      exact (hnewE n c' hlk).symm.trans hE'
    | none =>
      have hs : sg l n = some (c, 0) := by simpa [sgN, hlk] using hn
      obtain ⟨hlw, hcn⟩ := hlowS n c 0 hs
      rw [hold c hcn] at hE'
      rw [hst.agree n hlw, via_at hs hE']
      simp [Loc.shift]
  have hrepC : Rep0 E' M0' w' := by
    refine ⟨fun c b0 hb => ?_, ?_, ?_⟩
    · obtain ⟨n, b, h1, h2, h3, h4, h5⟩ := htake.blk c b0 hb
      obtain ⟨lc, hlc, hB⟩ := hrep'.at_ n b h2
      have hne : sgN l nw n ≠ none := by rw [h1]; simp
      obtain ⟨c', sh', l0, g1, g2, g3⟩ := via_inv (hag n lc hne hlc)
      rw [h1] at g1; injection g1 with g1; injection g1 with e1 e2; subst e1; subst e2
      have : l0 = lc := by rw [g3]; simp [Loc.shift]
      subst this
      exact ⟨l0, g2, h4.up (hB.mono hag h5)⟩
    · intro c b0 c' b0' lc lc' h1 h2 hrw hl1 hl2 hblk
      obtain ⟨n, b, g1, g2, g3, g4, _⟩ := htake.blk c b0 h1
      obtain ⟨n', b', g1', g2', g3', _⟩ := htake.blk c' b0' h2
      have := hrep'.far n b n' b' lc lc' g2 g2' g3 (locs n c lc g1 hl1) (locs n' c' lc' g1' hl2) hblk
      subst this
      rw [g1] at g1'; injection g1' with g1'; injection g1' with g1'
    · intro g lc hg hE'
      rw [hold g (fun h => by have := hlt g h; omega)] at hE'
      exact hrep.glob g lc hg hE'
  have hkeptC : Kept E m0 w E' M0' w' := by
    refine ⟨hst.kept.os, hst.kept.tape, hst.kept.output, hst.kept.size, fun x hx ho => ?_⟩
    obtain ⟨h1, h2⟩ := hst.kept.keep x hx (fun h => ho (ownUp x h))
    refine ⟨h1, ?_⟩
    rintro ⟨c, b0, lc, k1, k2, k3, k4⟩
    obtain ⟨n, b, g1, g2, g3, g4, _⟩ := htake.blk c b0 k1
    exact h2 ⟨n, b, lc, g2, g3, locs n c lc g1 k3, k4⟩
  refine hnext E' _ _ _ w' hKc hle hold ?_ hrepC hkeptC
  exact (R3_rn E' (sgN l nw) v u).2 (R3.mono hag hN3 hR)
end Go.Proofs.YtbfakdpnefhgkaaDoor.Sl
