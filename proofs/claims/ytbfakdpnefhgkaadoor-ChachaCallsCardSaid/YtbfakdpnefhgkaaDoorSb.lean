/-
  A logic of named memory: states, what a piece of code does with them, the laws of control, functions by contract. Plain lemmas, over any program.
-/
import Derived.Test.YtbfakdpnefhgkaaDoorSab
import Derived.Deep.LoopGhost
import Derived.Scope
set_option linter.unusedSimpArgs false
set_option linter.unusedVariables false
namespace Go.Proofs.YtbfakdpnefhgkaaDoor.Sl
open Go Go.RowKit Bv Mem
abbrev Fr := List (Nat × Value)
/-- What an operation read and wrote, by names. -/
structure Foot where
  rd : List Nat
  wr : List Nat
structure St where
  nx : Nat
  fr : Fr
  m : Mem
  log : List Foot
structure SRep (N lo : Nat) (E : Env) (s : St) (a : Act) (w : World) : Prop where
  low : lo ≤ s.nx
  size : a.tmps.size = N
  defers : a.defers = []
  fr : ∀ t v, look s.fr t = some v → ∃ u, a.tmps[t]? = some u ∧ R3 E v u
  rep : Rep E s.m w
  fresh : ∀ n, s.nx ≤ n → n < GB → E n = none
/-- The names that a piece must leave where they are. -/
def Low (lo n : Nat) : Prop := n < lo ∨ GB ≤ n
structure Step (lo : Nat) (E : Env) (m : Mem) (w : World) (E' : Env) (m' : Mem) (w' : World) : Prop where
  agree : ∀ n, Low lo n → E' n = E n
  kept : Kept E m w E' m' w'
theorem Step.refl (lo : Nat) (E : Env) (m : Mem) (w : World) : Step lo E m w E m w := ⟨fun _ _ => rfl, Kept.refl _ _ _⟩
theorem Step.trans {lo : Nat} {E E' E'' : Env} {m m' m'' : Mem} {w w' w'' : World} (h : Step lo E m w E' m' w') (h' : Step lo E' m' w' E'' m'' w'') : Step lo E m w E'' m'' w'' :=
  ⟨fun n hn => (h'.agree n hn).trans (h.agree n hn), h.kept.trans h'.kept⟩
/-- From state s on, piece c ends in a state of K. -/
structure Sp (P : Program) (N lo : Nat) (c : Code) (s : St) (K : Exit → St → Prop) : Prop where
  run : ∀ E a w, SRep N lo E s a w → ∀ Q : Exit → Act → World → Prop, (∀ e E' s' a' w', K e s' → SRep N lo E' s' a' w' → Step lo E s.m w E' s'.m w' → Q e a' w') → c.wp P Q a w
def seqK (F : St → Prop) (K : Exit → St → Prop) : Exit → St → Prop
  | .normal, s => F s
  | e, s => K e s
def blockK (id : Nat) (K : Exit → St → Prop) : Exit → St → Prop
  | .exit j, s => if j = id then K .normal s else K (.exit j) s
  | e, s => K e s
section
variable {P : Program} {N lo : Nat} {s : St} {K : Exit → St → Prop}
theorem Sp.mono {c : Code} {K' : Exit → St → Prop} (h : Sp P N lo c s K) (hK : ∀ e s, K e s → K' e s) : Sp P N lo c s K' :=
  ⟨fun E a w hs Q hQ => h.run E a w hs Q fun e E' s' a' w' hk => hQ e E' s' a' w' (hK e s' hk)⟩
theorem Sp.skip (h : K .normal s) : Sp P N lo .skip s K := ⟨fun E a w hs Q hQ => wp_skip (hQ _ E s a w h hs (Step.refl _ _ _ _))⟩
theorem Sp.ret (h : K .ret s) : Sp P N lo .ret s K := ⟨fun E a w hs Q hQ => wp_ret (hQ _ E s a w h hs (Step.refl _ _ _ _))⟩
theorem Sp.exit {id : Nat} (h : K (.exit id) s) : Sp P N lo (.exit id) s K := ⟨fun E a w hs Q hQ => wp_exit (hQ _ E s a w h hs (Step.refl _ _ _ _))⟩
theorem Sp.seq {x y : Code} (h : Sp P N lo x s (seqK (fun s' => Sp P N lo y s' K) K)) : Sp P N lo (.seq x y) s K := by
  refine ⟨fun E a w hs Q hQ => ?_⟩
  refine wp_seq (h.run E a w hs _ fun e E' s' a' w' hk hs' hst => ?_)
  cases e with
  | normal => exact hk.run E' a' w' hs' Q fun e E2 s2 a2 w2 h2 hs2 hst2 => hQ e E2 s2 a2 w2 h2 hs2 (hst.trans hst2)
  | _ => exact hQ _ E' s' a' w' hk hs' hst
theorem Sp.block {id : Nat} {c : Code} (h : Sp P N lo c s (blockK id K)) : Sp P N lo (.block id c) s K := by
  refine ⟨fun E a w hs Q hQ => ?_⟩
  refine wp_block (h.run E a w hs _ fun e E' s' a' w' hk hs' hst => ?_)
  cases e with
  | exit j =>
    simp only [blockK] at hk
    simp only [Exit.inBlock]
    split
    · rename_i hj; rw [if_pos hj] at hk; exact hQ _ E' s' a' w' hk hs' hst
    · rename_i hj; rw [if_neg hj] at hk; exact hQ _ E' s' a' w' hk hs' hst
  | _ => exact hQ _ E' s' a' w' hk hs' hst
/-- A constant as a told value. -/
def constV : Value → Option Value
  | .int .u8 (.ofNat n) => bif Nat.blt n 256 then some (.int .u8 (nb (BitVec.ofNat 8 (@OfNat.ofNat Nat n (instOfNatNat n))))) else none
  | .int .u32 (.ofNat n) => bif Nat.blt n 4294967296 then some (.int .u32 (nb (BitVec.ofNat 32 (@OfNat.ofNat Nat n (instOfNatNat n))))) else none
  | .int .u64 (.ofNat n) => bif Nat.blt n 18446744073709551616 then some (.int .u64 (nb (BitVec.ofNat 64 (@OfNat.ofNat Nat n (instOfNatNat n))))) else none
  | .int .i64 (.ofNat n) => some (.int .i64 ((@OfNat.ofNat Nat n (instOfNatNat n) : Nat) : Int))
  | .int .i64 (.negSucc n) => some (.int .i64 (.negSucc n))
  | .bool b => some (.bool b)
  | .string b => some (.string b)
  | .pointer none => some (.pointer none)
  | .slice none a b => some (.slice none a b)
  | .map none => some (.map none)
  | .nilFunc => some .nilFunc
  | .nilIface => some .nilIface
  | _ => none
/-- What an operand is. -/
def aeval (fr : Fr) : Operand → Option Value
  | .tmp t => look fr t
  | .const v => constV v
  | .global _ => none
  | .func f => some (.func (.func f) #[] #[])
theorem nb_ofNat {k n : Nat} (h : Nat.blt n (2 ^ k) = true) : nb (BitVec.ofNat k n) = (n : Int) := by
  have : n < 2 ^ k := Nat.le_of_ble_eq_true h
  unfold nb
  rw [BitVec.toNat_ofNat, Nat.mod_eq_of_lt this]
theorem constV_spec (E : Env) : ∀ {v v' : Value}, constV v = some v' → R3 E v' v := by
  intro v v' h
  unfold constV at h
  split at h
  · revert h; cases hb : Nat.blt _ 256 <;> intro h <;> simp at h; subst h
    exact congrArg (Value.int _) (nb_ofNat (k := 8) hb).symm
  · revert h; cases hb : Nat.blt _ 4294967296 <;> intro h <;> simp at h; subst h
    exact congrArg (Value.int _) (nb_ofNat (k := 32) hb).symm
  · revert h; cases hb : Nat.blt _ 18446744073709551616 <;> intro h <;> simp at h; subst h
    exact congrArg (Value.int _) (nb_ofNat (k := 64) hb).symm
  all_goals first
    | (injection h with h; subst h; rfl)
    | cases h
theorem SRep.eval {E : Env} {a : Act} {w : World} (hs : SRep N lo E s a w) {x : Operand} {v : Value} (h : aeval s.fr x = some v) : R3 E v (a.eval x) := by
  cases x with
  | tmp t =>
    obtain ⟨u, hu, hr⟩ := hs.fr t v h
    simpa [Act.eval, hu] using hr
  | const c => exact constV_spec E h
  | global g => cases h
  | func f =>
    injection h with h; subst h
    exact ⟨#[], #[], rfl, ⟨rfl, fun i v h => by simp at h⟩, ⟨rfl, fun i v h => by simp at h⟩⟩
theorem Sp.cond {c : Operand} {x y : Code} {b : Bool} (hc : aeval s.fr c = some (.bool b)) (ht : b = true → Sp P N lo x s K) (hf : b = false → Sp P N lo y s K) : Sp P N lo (.cond c x y) s K := by
  refine ⟨fun E a w hs Q hQ => ?_⟩
  have he : a.eval c = .bool b := hs.eval hc
  exact wp_cond_split he (fun h => (ht h).run E a w hs Q hQ) (fun h => (hf h).run E a w hs Q hQ)
/-- An operation, with the memory that it needs. -/
def LocalOp (P : Program) (o : Oper) (fr : Fr) (m : Mem) (new : List Nat) (K : Value → Mem → Prop) : Prop :=
  ∀ (E : Env) (a : Act) (w : World), (∀ x, x ∈ o.op.operands → ∀ v, aeval fr x = some v → R3 E v (a.eval x)) → Rep E m w → (∀ n, n ∈ new → E n = none ∧ n < GB) →
  ∀ (next : Act → World → Prop) (Q : Exit → Act → World → Prop),
    (∀ E' v u m' w', K v m' → Env.le E E' → (∀ n, n ∉ new → E' n = E n) → R3 E' v u → Rep0 E' m' w' → Kept E m w E' m' w' → next (a.put o.dst u) w') → o.wp P a w next Q
/-- What is told of some names, of that which is told. -/
def Wk : ABlk → ABlk → Prop
  | .cells C opn rw, b => b = .cells C opn rw ∨ b = .cells C opn false
  | .map es clock, b => b = .map es clock
def Sub (m M : Mem) : Prop := ∀ n b, mfind m n = some b → ∃ b0, mfind M n = some b0 ∧ Wk b0 b
theorem Wk.rw {b0 b : ABlk} (h : Wk b0 b) (hb : b.rw = true) : b0.rw = true := by
  cases b0 with
  | cells C opn rw => rcases h with rfl | rfl <;> first | exact hb | cases hb
  | map es c => rfl
theorem Wk.rep {E : Env} {l : Loc} {o : Option Obj} {b0 b : ABlk} (h : Wk b0 b) (hb : BRep E l o b0) : BRep E l o b := by
  cases b0 with
  | cells C opn rw => rcases h with rfl | rfl <;> first | exact hb | exact hb.ro
  | map es c => rw [show b = _ from h]; exact hb
theorem Rep.sub {E : Env} {m M : Mem} {w : World} (h : Rep E M w) (hm : Sub m M) : Rep E m w := by
  refine ⟨⟨fun n b hb => ?_, ?_, h.glob⟩, fun g C hg => ⟨(h.tab g C hg).1, fun ho => (h.tab g C hg).2 ?_⟩⟩
  · obtain ⟨b0, h0, hw⟩ := hm n b hb
    obtain ⟨l, hl, hB⟩ := h.at_ n b0 h0
    exact ⟨l, hl, hw.rep hB⟩
  · intro n b n' b' l l' h1 h2 hrw hl hl' hblk
    obtain ⟨b0, h0, hw⟩ := hm n b h1
    obtain ⟨b1, h3, _⟩ := hm n' b' h2
    exact h.far n b0 n' b1 l l' h0 h3 (hw.rw hrw) hl hl' hblk
  · obtain ⟨n, b, l, h1, h2, h3⟩ := ho
    obtain ⟨b0, h0, hw⟩ := hm n b h1
    exact ⟨n, b0, l, h0, hw.rw h2, h3⟩
def putF (fr : Fr) (d : Option Tmp) (v : Value) : Fr :=
  match d with
  | some d => (d, v) :: fr
  | none => fr
/-- What the piece may tell of its memory behind it. -/
structure Back (m m' : Mem) : Prop where
  all : ∀ n b, mfind m n = some b → b.rw = true → mhas m' n = true
  ro : ∀ n b, mfind m' n = some b → b.rw = false → ∃ b0, mfind m n = some b0
/-- What is told of one operation of a region. -/
structure Rec where
  fr : Fr
  m : Mem
  new : List Nat
structure OpOk (P : Program) (ops : Array Oper) (o : Oper) (r : Rec) (Ko : Value → Mem → Prop) : Prop where
  run : ∀ (E : Env) (a : Act) (w : World), (∀ t, t ∈ o.looksAt ops → ∀ v, look r.fr t = some v → ∃ u, a.tmps[t]? = some u ∧ R3 E v u) → Rep E r.m w → (∀ n, n ∈ r.new → E n = none ∧ n < GB) →
    ∀ (next : Act → World → Prop) (Q : Exit → Act → World → Prop),
      (∀ E' v u m' w', Ko v m' → Env.le E E' → (∀ n, n ∉ r.new → E' n = E n) → R3 E' v u → Rep0 E' m' w' → Kept E r.m w E' m' w' → next (a.put o.dst u) w') →
      if Region.wanted o (yielded ops a.tmps) = true then o.wp P a w next Q else next (a.put o.dst undef) w
  back : ∀ v m', Ko v m' → Back r.m m'
theorem OpOk.of_local {P : Program} {ops : Array Oper} {o : Oper} {fr : Fr} {m : Mem} {new : List Nat} {Ko : Value → Mem → Prop} (h : LocalOp P o fr m new Ko) (hb : ∀ v m', Ko v m' → Back m m') (hg : o.guard = none) : OpOk P ops o ⟨fr, m, new⟩ Ko := by
  refine ⟨fun E a w hfr hrep hnew next Q hnext => ?_, hb⟩
  rw [if_pos (by simp [Region.wanted, hg])]
  refine h E a w (fun x hx v hv => ?_) hrep hnew next Q hnext
  cases x with
  | tmp t =>
    obtain ⟨u, hu, hr⟩ := hfr t (List.mem_append_left _ (List.mem_filterMap.2 ⟨.tmp t, by simpa using hx, rfl⟩)) v hv
    simpa [Act.eval, hu] using hr
  | const c => exact constV_spec E hv
  | global g => cases hv
  | func f =>
    injection hv with hv; subst hv
    exact ⟨#[], #[], rfl, ⟨rfl, fun i v h => by simp at h⟩, ⟨rfl, fun i v h => by simp at h⟩⟩
/-- A guarded operation whose guard is met. -/
theorem OpOk.of_met {P : Program} {ops : Array Oper} {o : Oper} {fr : Fr} {m : Mem} {new : List Nat} {Ko : Value → Mem → Prop} (h : LocalOp P o fr m new Ko) (hb : ∀ v m', Ko v m' → Back m m') {j : Nat} {b : Bool} {t : Tmp} (hg : o.guard = some (j, b)) (hj : (ops[j]?).bind (·.dst) = some t)
    (ht : look fr t = some (.bool b)) : OpOk P ops o ⟨fr, m, new⟩ Ko := by
  refine ⟨fun E a w hfr hrep hnew next Q hnext => ?_, hb⟩
  have hl : t ∈ o.looksAt ops := List.mem_append_right _ (by simp [hg, hj])
  obtain ⟨u, hu, hr⟩ := hfr t hl _ ht
  rw [show u = _ from hr] at hu
  rw [if_pos (by simp [Region.wanted, hg, yielded, hj, hu])]
  refine h E a w (fun x hx v hv => ?_) hrep hnew next Q hnext
  cases x with
  | tmp t =>
    obtain ⟨u, hu, hr⟩ := hfr t (List.mem_append_left _ (List.mem_filterMap.2 ⟨.tmp t, by simpa using hx, rfl⟩)) v hv
    simpa [Act.eval, hu] using hr
  | const c => exact constV_spec E hv
  | global g => cases hv
  | func f =>
    injection hv with hv; subst hv
    exact ⟨#[], #[], rfl, ⟨rfl, fun i v h => by simp at h⟩, ⟨rfl, fun i v h => by simp at h⟩⟩
theorem R3_undef (E : Env) : R3 E undef undef := ⟨#[], rfl, rfl, fun i v h => by simp at h⟩
/-- A guarded operation whose guard is not met: by the other value, or by none. -/
theorem OpOk.of_unmet {P : Program} {ops : Array Oper} {o : Oper} {fr : Fr} {j : Nat} {b : Bool} {t : Tmp} {v : Value} (hg : o.guard = some (j, b)) (hj : (ops[j]?).bind (·.dst) = some t) (ht : look fr t = some v) (hv : v = .bool (!b) ∨ v = undef) :
    OpOk P ops o ⟨fr, [], []⟩ (fun v m' => v = undef ∧ m' = []) := by
  refine ⟨fun E a w hfr hrep hnew next Q hnext => ?_, ?_⟩
  · have hl : t ∈ o.looksAt ops := List.mem_append_right _ (by simp [hg, hj])
    obtain ⟨u, hu, hr⟩ := hfr t hl _ ht
    have hw : Region.wanted o (yielded ops a.tmps) = false := by
      rcases hv with rfl | rfl
      · rw [show u = _ from hr] at hu
        simp [Region.wanted, hg, yielded, hj, hu]
      · obtain ⟨ds, rfl, _⟩ := hr
        simp [Region.wanted, hg, yielded, hj, hu]
    rw [if_neg (by rw [hw]; simp)]
    exact hnext E undef undef [] w ⟨rfl, rfl⟩ (Env.le.refl E) (fun _ _ => rfl) (R3_undef E) hrep.toRep0 (Kept.refl _ _ _)
  · rintro v' m' ⟨rfl, rfl⟩; exact ⟨(fun n b h => by cases h), (fun n b h => by cases h)⟩
def keys (m : Mem) : List Nat := m.map (·.1)
theorem mhas_keys {m : Mem} {n : Nat} (h : mhas m n = true) : n ∈ keys m := by
  induction m with
  | nil => cases h
  | cons p m ih =>
    obtain ⟨k, b⟩ := p
    simp only [mhas] at h
    by_cases hk : k = n
    · subst hk; simp [keys]
    · rw [beq_ne hk] at h; simp only [keys, List.map_cons, List.mem_cons]; exact .inr (ih h)
/-- The checks on a region that draws its order: the ancestors of each operation as bits. -/
def maskOf (acc : List Nat) (o : Oper) : Nat := o.after.toList.foldl (fun s e => bif Region.binds .any e then s ||| 2 ^ e.on ||| acc.getD e.on 0 else s) 0
def masks : List Oper → List Nat → List Nat
  | [], acc => acc
  | o :: l, acc => masks l (acc ++ [maskOf acc o])
def cmpB (ms : List Nat) (i k : Nat) : Bool := (ms.getD i 0).testBit k || (ms.getD k 0).testBit i
def disj (a b : List Nat) : Bool := a.all fun x => !b.contains x
def dynB (ops : List Oper) (log : List Foot) : Bool :=
  let ms := masks ops []
  let fs := log.reverse.zipIdx
  fs.all fun (f, i) => fs.all fun (g, k) => Nat.ble k i || cmpB ms i k || (disj f.wr g.rd && disj g.wr f.rd && disj f.wr g.wr)
/-- A list of operations, in the text's order; 'dr': the region draws its order. -/
inductive SpL (P : Program) (N lo : Nat) (ops : Array Oper) (dr : Bool) : List Oper → St → (St → Prop) → Prop
  | nil {s : St} {K : St → Prop} (hd : dr = true → dynB ops.toList s.log = true) (hk : K ⟨s.nx, s.fr, s.m, []⟩) : SpL P N lo ops dr [] s K
  | op {o : Oper} {rest : List Oper} {s : St} {K : St → Prop} {m0 m' : Mem} {new : List Nat} {v : Value} (nx' : Nat) (hop : OpOk P ops o ⟨s.fr, m0, new⟩ (fun v' m'' => v' = v ∧ m'' = m')) (hsub : Sub m0 s.m)
      (hnew : ∀ n, n ∈ new → s.nx ≤ n ∧ n < nx' ∧ n < GB) (hnx : s.nx ≤ nx') (hd : ∀ d, o.dst = some d → d < N)
      (h : SpL P N lo ops dr rest ⟨nx', putF s.fr o.dst v, m' ++ s.m, ⟨keys m0, keys m'⟩ :: s.log⟩ K) : SpL P N lo ops dr (o :: rest) s K
  | opN {o : Oper} {rest : List Oper} {s : St} {K : St → Prop} {m0 : Mem} {new : List Nat} {Ko : Value → Mem → Prop} (nx' : Nat) (hdr : dr = false) (hop : OpOk P ops o ⟨s.fr, m0, new⟩ Ko) (hsub : Sub m0 s.m)
      (hnew : ∀ n, n ∈ new → s.nx ≤ n ∧ n < nx' ∧ n < GB) (hnx : s.nx ≤ nx') (hd : ∀ d, o.dst = some d → d < N)
      (h : ∀ v m', Ko v m' → SpL P N lo ops dr rest ⟨nx', putF s.fr o.dst v, m' ++ s.m, s.log⟩ K) : SpL P N lo ops dr (o :: rest) s K
/-- One operation, in the text's order. -/
theorem SRep.op {P : Program} {ops : Array Oper} {o : Oper} {m0 : Mem} {new : List Nat} {Ko : Value → Mem → Prop} {nx' : Nat} {E : Env} {a : Act} {w : World} (hs : SRep N lo E s a w) (hop : OpOk P ops o ⟨s.fr, m0, new⟩ Ko) (hsub : Sub m0 s.m)
    (hnew : ∀ n, n ∈ new → s.nx ≤ n ∧ n < nx' ∧ n < GB) (hnx : s.nx ≤ nx') (hd : ∀ d, o.dst = some d → d < N) (next : Act → World → Prop) (Q : Exit → Act → World → Prop)
    (h : ∀ v m' E' a' w' lg, Ko v m' → SRep N lo E' ⟨nx', putF s.fr o.dst v, m' ++ s.m, lg⟩ a' w' → Step lo E s.m w E' (m' ++ s.m) w' → next a' w') :
    if Region.wanted o (yielded ops a.tmps) = true then o.wp P a w next Q else next (a.put o.dst undef) w := by
  refine hop.run E a w (fun t _ v hv => hs.fr t v hv) (hs.rep.sub hsub) (fun n hn => ⟨hs.fresh n (hnew n hn).1 (hnew n hn).2.2, (hnew n hn).2.2⟩) next Q ?_
  intro E' v u m' w' hk hle hnw hr hrep hkept
  have hbk := hop.back v m' hk
  have hsub' : ∀ n b, mfind m0 n = some b → ∃ b0, mfind s.m n = some b0 ∧ (b.rw = true → b0.rw = true) := fun n b hb =>
    let ⟨b0, h0, hw⟩ := hsub n b hb
    ⟨b0, h0, hw.rw⟩
  have hM' : ∀ n b, mfind (m' ++ s.m) n = some b → mfind m' n = some b ∨ (mfind s.m n = some b ∧ n ∉ new ∧ ∀ b0, mfind m0 n = some b0 → b0.rw = false) := by
    intro n b hb
    rw [mfind_append] at hb
    cases hh : mhas m' n with
    | true => rw [hh] at hb; exact .inl hb
    | false =>
      rw [hh] at hb
      refine .inr ⟨hb, fun hn => ?_, fun b0 h0 => ?_⟩
      · obtain ⟨l, hl, _⟩ := hs.rep.at_ n b hb
        rw [hs.fresh n (hnew n hn).1 (hnew n hn).2.2] at hl
        cases hl
      · cases hrw : b0.rw with
        | false => rfl
        | true => rw [hbk.all n b0 h0 hrw] at hh; cases hh
  have hrep' := hs.rep.frame hle hkept hrep hnw hsub' hbk.ro hM'
  have hkept' := Kept.frame hs.rep.toRep0 hle hkept hnw hsub' hM'
  have hs' : SRep N lo E' ⟨nx', putF s.fr o.dst v, m' ++ s.m, []⟩ (a.put o.dst u) w' := by
    have hlo := hs.low
    refine ⟨Nat.le_trans hlo hnx, ?_, ?_, ?_, hrep', ?_⟩
    · cases hdd : o.dst <;> simp [Act.put, hs.size]
    · cases hdd : o.dst <;> simp [Act.put, hs.defers]
    · intro t x hx
      cases hdd : o.dst with
      | none =>
        rw [hdd] at hx
        obtain ⟨y, hy, hry⟩ := hs.fr t x hx
        exact ⟨y, hy, hry.le hle⟩
      | some d =>
        rw [hdd] at hx
        simp only [putF] at hx
        rw [look_cons] at hx
        have hdN := hd d hdd
        by_cases hdt : d = t
        · rw [if_pos hdt] at hx
          injection hx with hx
          subst hx; subst hdt
          exact ⟨u, by simp [Act.put, hs.size, hdN], hr⟩
        · rw [if_neg hdt] at hx
          obtain ⟨y, hy, hry⟩ := hs.fr t x hx
          exact ⟨y, by simp [Act.put, Array.getElem?_setIfInBounds_ne hdt, hy], hry.le hle⟩
    · intro n h1 h2
      rw [hnw n (fun hn => by have := (hnew n hn).2.1; simp only at h1; omega)]
      exact hs.fresh n (by simp only at h1; omega) h2
  exact h v m' E' _ w' [] hk hs' ⟨fun n hn => hnw n (fun hm => by have := hnew n hm; have := hs.low; unfold Low at hn; omega), hkept'⟩
theorem SRep.log {E : Env} {a : Act} {w : World} (hs : SRep N lo E s a w) (lg : List Foot) : SRep N lo E ⟨s.nx, s.fr, s.m, lg⟩ a w := ⟨hs.low, hs.size, hs.defers, hs.fr, hs.rep, hs.fresh⟩
theorem SpL.run {P : Program} {N lo : Nat} {ops : Array Oper} {l : List Oper} {s : St} {K : St → Prop} (h : SpL P N lo ops false l s K) : ∀ E a w, SRep N lo E s a w → ∀ Q : Exit → Act → World → Prop,
    (∀ E' s' a' w', K s' → SRep N lo E' s' a' w' → Step lo E s.m w E' s'.m w' → Q .normal a' w') → wpList P ops Q l a w := by
  induction h with
  | nil hd hk => exact fun E a w hs Q hQ => wpList_nil (hQ E _ a w hk (hs.log []) (Step.refl _ _ _ _))
  | op nx' hop hsub hnew hnx hd h ih =>
    intro E a w hs Q hQ
    refine wpList_step fun KK hKK => ?_
    refine hs.op hop hsub hnew hnx hd KK Q ?_
    rintro v m' E' a' w' lg ⟨rfl, rfl⟩ hs' hst
    exact hKK _ _ (ih E' a' w' (hs'.log _) Q fun E2 s2 a2 w2 hk2 hs2 hst2 => hQ E2 s2 a2 w2 hk2 hs2 (hst.trans hst2))
  | opN nx' hdr hop hsub hnew hnx hd h ih =>
    intro E a w hs Q hQ
    refine wpList_step fun KK hKK => ?_
    refine hs.op hop hsub hnew hnx hd KK Q ?_
    intro v m' E' a' w' lg hk hs' hst
    exact hKK _ _ (ih v m' hk E' a' w' (hs'.log _) Q fun E2 s2 a2 w2 hk2 hs2 hst2 => hQ E2 s2 a2 w2 hk2 hs2 (hst.trans hst2))
theorem Sp.region {id : Nat} {l : List Oper} (h : SpL P N lo l.toArray false l ⟨s.nx, s.fr, s.m, []⟩ (fun s' => K .normal s')) : Sp P N lo (.region id l.toArray false) s K :=
  ⟨fun E a w hs Q hQ => wp_region_lit (h.run E a w (hs.log []) Q fun E' s' a' w' hk hs' hst => hQ _ E' s' a' w' hk hs' hst)⟩
/-- Blocks' own names. -/
def NB (S : Nat → Prop) : ABlk → Prop
  | .cells C _ _ => NA (N1 S) C
  | .map es _ => ∀ (i : Nat) e, es[i]? = some e → N2 S e.key ∧ N2 S e.val
/-- Less told, under other names, and names given back. -/
structure Weak (lo : Nat) (s s' : St) : Prop where
  hlo : lo ≤ s'.nx
  ex : ∃ σ : Nat → Nat, (∀ n, Low lo n → σ n = n) ∧ (∀ n, GB ≤ n → σ n = n) ∧ (∀ n b n' b', mfind s'.m n = some b → mfind s'.m n' = some b' → b.rw = true → σ n = σ n' → n = n') ∧
    (∀ t v, look s'.fr t = some v → look s.fr t = some (rn3 (fun n => some (σ n, 0)) v) ∧ N3 (Low s'.nx) v) ∧
    (∀ n b, mfind s'.m n = some b → ∃ b0, mfind s.m (σ n) = some b0 ∧ CB (fun n => some (σ n, 0)) 0 b b0 ∧ Low s'.nx n ∧ NB (Low s'.nx) b)
theorem BRep.mono {S : Nat → Prop} {E E' : Env} (h : Agree S E E') {l : Loc} {o : Option Obj} {b : ABlk} (hn : NB S b) (hb : BRep E l o b) : BRep E' l o b := by
  cases b with
  | cells C opn rw =>
    obtain ⟨D, t, fz, ho, h1, h2, h3, h4, h5⟩ := hb
    exact ⟨D, t, fz, ho, h1, h2, h3, h4, fun i v hv => let ⟨u, hu, hr⟩ := h5 i v hv; ⟨u, hu, hr.mono h (hn i v hv)⟩⟩
  | map es clock =>
    obtain ⟨es', ho, h1, h2⟩ := hb
    exact ⟨es', ho, h1, fun i e he => let ⟨e', h3, h4, h5, h6⟩ := h2 i e he; ⟨e', h3, h4, h5.mono h (hn i e he).1, h6.mono h (hn i e he).2⟩⟩
def Env.upto (E : Env) (σ : Nat → Nat) (nx : Nat) : Env := fun n => if n < nx ∨ GB ≤ n then E (σ n) else none
theorem Env.upto_at {E : Env} {σ : Nat → Nat} {nx n : Nat} (h : Low nx n) : E.upto σ nx n = E (σ n) := if_pos h
theorem SRep.weak {s' : St} {E : Env} {a : Act} {w : World} (hs : SRep N lo E s a w) (h : Weak lo s s') : ∃ E', SRep N lo E' s' a w ∧ Step lo E s.m w E' s'.m w := by
  obtain ⟨hlo, σ, hσ, hσg, hinj, hfr, hm⟩ := h
  have hag : Agree (Low s'.nx) (E.via (fun n => some (σ n, 0))) (E.upto σ s'.nx) := fun n l hn hl => by rw [via_ren] at hl; exact (Env.upto_at hn).trans hl
  have hkept : Kept E s.m w (E.upto σ s'.nx) s'.m w := by
    refine ⟨rfl, rfl, rfl, Nat.le_refl _, fun x hx ho => ⟨rfl, ?_⟩⟩
    rintro ⟨n, b, l, h1, h2, h3, h4⟩
    obtain ⟨b0, g1, g2, g3, _⟩ := hm n b h1
    rw [Env.upto_at g3] at h3
    exact ho ⟨σ n, b0, l, g1, g2.rw.trans h2, h3, h4⟩
  refine ⟨E.upto σ s'.nx, ⟨hlo, hs.size, hs.defers, fun t v hv => ?_, ⟨⟨fun n b hb => ?_, ?_, fun g l hg hl => ?_⟩, hs.rep.tab.kept hkept⟩, fun n h1 h2 => if_neg (by omega)⟩, ⟨fun n hn => ?_, hkept⟩⟩
  · obtain ⟨h1, h2⟩ := hfr t v hv
    obtain ⟨u, hu, hr⟩ := hs.fr t _ h1
    exact ⟨u, hu, R3.mono hag h2 ((R3_rn E _ v u).1 hr)⟩
  · obtain ⟨b0, h1, h2, h3, h4⟩ := hm n b hb
    obtain ⟨l, hl, hB⟩ := hs.rep.at_ _ b0 h1
    refine ⟨l, (Env.upto_at h3).trans hl, ?_⟩
    have := h2.down hB
    rw [Loc.shift0] at this
    exact this.mono hag h4
  · intro n b n' b' l l' h1 h2 hrw hl hl' hblk
    obtain ⟨b0, g1, g2, g3, _⟩ := hm n b h1
    obtain ⟨b0', g1', g2', g3', _⟩ := hm n' b' h2
    rw [Env.upto_at g3] at hl
    rw [Env.upto_at g3'] at hl'
    exact hinj n b n' b' h1 h2 hrw (hs.rep.far _ b0 _ b0' l l' g1 g1' (g2.rw.trans hrw) hl hl' hblk)
  · rw [Env.upto_at (.inr hg), hσg g hg] at hl
    exact hs.rep.glob g l hg hl
  · rw [Env.upto_at (hn.imp (fun h1 => Nat.lt_of_lt_of_le h1 hlo) id), hσ n hn]
theorem Sp.weak {c : Code} (s' : St) (hw : Weak lo s s') (h : Sp P N lo c s' K) : Sp P N lo c s K := ⟨fun E a w hs Q hQ =>
  let ⟨E', h1, h2⟩ := hs.weak hw
  h.run E' a w h1 Q fun e E2 s2 a' w' hk hs' hst => hQ e E2 s2 a' w' hk hs' (h2.trans hst)⟩
/-- A loop: at its head the state is one of a family, and each round comes to a smaller one. -/
theorem Sp.loop {α : Type} {c : Code} (I : α → Prop) (S : α → St) (μ : α → Nat) (i0 : α) (hi0 : I i0) (h0 : Weak lo s (S i0))
    (round : ∀ i, I i → Sp P N lo c (S i) (seqK (fun s' => ∃ j, I j ∧ μ j < μ i ∧ Weak lo s' (S j)) K)) : Sp P N lo (.loop c) s K := by
  refine ⟨fun E a w hs Q hQ => ?_⟩
  refine wp_loop_ghost (fun n a' w' => ∃ i E', I i ∧ μ i = n ∧ SRep N lo E' (S i) a' w' ∧ Step lo E s.m w E' (S i).m w') (μ i0) (let ⟨E', h1, h2⟩ := hs.weak h0; ⟨i0, E', hi0, rfl, h1, h2⟩) ?_
  rintro n a1 w1 ⟨i, E1, hi, rfl, hs1, hst1⟩
  refine (round i hi).run E1 a1 w1 hs1 _ fun e E2 s2 a2 w2 hk hs2 hst2 => ?_
  cases e with
  | normal =>
    obtain ⟨j, hj, hlt, hw⟩ := hk
    obtain ⟨E3, h3, h4⟩ := hs2.weak hw
    exact ⟨μ j, hlt, j, E3, hj, rfl, h3, hst1.trans (hst2.trans h4)⟩
  | _ => exact hQ _ E2 s2 a2 w2 hk hs2 (hst1.trans hst2)
end
/-! ### Functions -/
def Fc (P : Program) (f nx : Nat) (args : List Value) (m : Mem) (K : Value → Mem → Prop) : Prop :=
  ∀ (E : Env) (us : Array Value) (w : World), AR (R3 E) args.toArray us → Rep E m w → (∀ n, nx ≤ n → n < GB → E n = none) →
    Calls P f us w fun e w' => ∃ E' v m' u, K v m' ∧ e = .returned u ∧ R3 E' v u ∧ Rep0 E' m' w' ∧ Step nx E m w E' m' w'
theorem Fc.mono {P : Program} {f nx : Nat} {args : List Value} {m : Mem} {K K' : Value → Mem → Prop} (h : Fc P f nx args m K) (hK : ∀ v m, K v m → K' v m) : Fc P f nx args m K' :=
  fun E us w ha hr hf => (h E us w ha hr hf).mono fun e w' ⟨E', v, m', u, hk, rest⟩ => ⟨E', v, m', u, hK _ _ hk, rest⟩
def slots : Nat → List Value → Fr
  | _, [] => []
  | i, v :: vs => (i, v) :: slots (i + 1) vs
theorem look_slots : ∀ (vs : List Value) (i t : Nat) (v : Value), look (slots i vs) t = some v → ∃ j, t = i + j ∧ vs[j]? = some v
  | [], _, _, _, h => by cases h
  | x :: vs, i, t, v, h => by
    simp only [slots] at h
    rw [look_cons] at h
    by_cases hit : i = t
    · rw [if_pos hit] at h
      exact ⟨0, by omega, by simpa using h⟩
    · rw [if_neg hit] at h
      obtain ⟨j, hj, hv⟩ := look_slots vs (i + 1) t v h
      exact ⟨j + 1, by omega, by simpa using hv⟩
/-- What a result variable holds. -/
def RV (P : Program) (s : St) : ResultVar → Value → Prop
  | .tmp t, v => look s.fr t = some v
  | .cell t ty, v => ∀ E a w N lo, SRep N lo E s a w → ∃ u x, a.tmps[t]? = some x ∧ (do loadVar ty (← asAddr x) : Sem Value).run P w = .ok u w ∧ R3 E v u
def resV : List Value → Value
  | [v] => v
  | vs => .tuple vs.toArray
def RVs (P : Program) (s : St) : List ResultVar → List Value → Prop
  | [], [] => True
  | r :: rs, v :: vs => RV P s r v ∧ RVs P s rs vs
  | _, _ => False
/-- The function's end. -/
def retK (P : Program) (rs : List ResultVar) (K : Value → Mem → Prop) : Exit → St → Prop
  | .normal, s | .ret, s => ∃ vs m', RVs P s rs vs ∧ (∀ v ∈ vs, ∀ E u, R3 E v u → R2 E v u) ∧ (∀ n b, mfind m' n = some b → mfind s.m n = some b) ∧ K (resV vs) m'
  | _, _ => False
theorem RV.run {P : Program} {s : St} {N lo : Nat} {E : Env} {a : Act} {w : World} (hs : SRep N lo E s a w) {r : ResultVar} {v : Value} (h : RV P s r v) :
    ∃ u, ((match r with | .tmp t => pure (a.tmps.getD t undef) | .cell p t => do loadVar t (← asAddr (a.tmps.getD p undef)) : Sem Value)).run P w = .ok u w ∧ R3 E v u := by
  cases r with
  | tmp t =>
    obtain ⟨u, hu, hr⟩ := hs.fr t v h
    exact ⟨u, by simp [hu], hr⟩
  | cell t ty =>
    obtain ⟨u, x, hx, hl, hr⟩ := h E a w N lo hs
    refine ⟨u, ?_, hr⟩
    have : a.tmps.getD t undef = x := by simp [hx]
    dsimp only
    rw [this]; exact hl
theorem RVs.run {P : Program} {s : St} {N lo : Nat} {E : Env} {a : Act} {w : World} (hs : SRep N lo E s a w) : ∀ {rs : List ResultVar} {vs : List Value}, RVs P s rs vs →
    ∃ us : List Value, (rs.mapM (fun r => (match r with | .tmp t => pure (a.tmps.getD t undef) | .cell p t => do loadVar t (← asAddr (a.tmps.getD p undef)) : Sem Value))).run P w = .ok us w ∧ us.length = vs.length ∧ ∀ (i : Nat) v, vs[i]? = some v → ∃ u, us[i]? = some u ∧ R3 E v u
  | [], [], _ => ⟨[], rfl, rfl, fun i v h => by simp at h⟩
  | r :: rs, v :: vs, h => by
    obtain ⟨u, hu, hr⟩ := RV.run hs h.1
    obtain ⟨us, hus, hl, hall⟩ := RVs.run hs h.2
    refine ⟨u :: us, ?_, by simp [hl], ?_⟩
    · rw [List.mapM_cons, Sem.run_bind, hu, Result.andThen_ok, Sem.run_bind, hus]; rfl
    · intro i x hx
      cases i with
      | zero => simp at hx; subst hx; exact ⟨u, by simp, hr⟩
      | succ i => simpa using hall i x (by simpa using hx)
  | [], _ :: _, h => h.elim
  | _ :: _, [], h => h.elim
theorem Fc.enter {P : Program} {f nx : Nat} {args : List Value} {m : Mem} {K : Value → Mem → Prop} {fn : Func} {c : Code} {rs : List ResultVar} (hf : P.funcs[f]? = some fn) (hb : fn.body = some c) (hrs : fn.results = rs.toArray)
    {N : Nat} (hN : N = args.length + (fn.ntmps - args.length)) (h : Sp P N nx c ⟨nx, slots 0 args, m, []⟩ (retK P rs K)) : Fc P f nx args m K := by
  intro E us w ha hr hfresh
  have hus : us.size = args.length := by simpa using ha.1.symm
  refine calls_of_wp hf hb ?_
  have hs : SRep N nx E ⟨nx, slots 0 args, m, []⟩ { tmps := us ++ Array.replicate (fn.ntmps - us.size) undef, defers := [] } w := by
    refine ⟨Nat.le_refl _, by simp [hus, hN], rfl, fun t v hv => ?_, hr, hfresh⟩
    obtain ⟨j, rfl, hj⟩ := look_slots _ _ _ _ hv
    obtain ⟨u, hu, hru⟩ := ha.2 j v (by simpa using hj)
    refine ⟨u, ?_, hru⟩
    rw [Nat.zero_add, Array.getElem?_append_left (by rw [hus]; have := (List.getElem?_eq_some_iff.1 hj).1; exact this)]
    exact hu
  refine h.run E _ w hs _ fun e E' s' a' w' hk hs' hst => ?_
  have fin : (∃ vs m', RVs P s' rs vs ∧ (∀ v ∈ vs, ∀ E u, R3 E v u → R2 E v u) ∧ (∀ n b, mfind m' n = some b → mfind s'.m n = some b) ∧ K (resV vs) m') → a'.defers = [] ∧ ∃ v, (results fn a'.tmps).run P w' = .ok v w' ∧
      ∃ E' v' m' u, K v' m' ∧ Ending.returned v = .returned u ∧ R3 E' v' u ∧ Rep0 E' m' w' ∧ Step nx E m w E' m' w' := by
    rintro ⟨vs, m', h1, h3, hless, h2⟩
    obtain ⟨us', hus', hl, hall⟩ := RVs.run hs' h1
    refine ⟨hs'.defers, (if h : us'.toArray.size = 1 then us'.toArray[0] else .tuple us'.toArray), ?_, E', _, m', _, h2, rfl, ?_, (hs'.rep.less hless).toRep0, hst.agree, hst.kept.os, hst.kept.tape, hst.kept.output, hst.kept.size, fun x hx ho => ⟨(hst.kept.keep x hx ho).1, fun h => (hst.kept.keep x hx ho).2 (h.less hless)⟩⟩
    · unfold results
      rw [hrs, Sem.run_bind, List.mapM_toArray, Sem.run_map]
      erw [hus']
      simp
    · match vs, us', hl, hall, h3 with
      | [v], [u], _, hall, _ =>
        obtain ⟨u', hu', hr'⟩ := hall 0 v rfl
        simp at hu'
        subst hu'
        simpa [resV] using hr'
      | [], [], _, _, _ => exact ⟨#[], rfl, rfl, fun i v h => by simp at h⟩
      | v :: v2 :: vs, u :: u2 :: us, hl, hall, h3 =>
        rw [dif_neg (by simp)]
        refine ⟨_, rfl, by simpa using hl.symm, fun i x hx => ?_⟩
        obtain ⟨y, hy, hry⟩ := hall i x (by simpa using hx)
        exact ⟨y, by simpa using hy, h3 x (List.mem_of_getElem? (by simpa using hx)) E' y hry⟩
  cases e with
  | normal => exact fin hk
  | ret => exact fin hk
  | exit id => exact hk.elim
  | goto l => exact hk.elim
  | panic ch => exact hk.elim
  | outgrown => exact hk.elim
end Go.Proofs.YtbfakdpnefhgkaaDoor.Sl
