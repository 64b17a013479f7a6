/-
  Control and what is kept at a loop's head, as they are applied. Plain lemmas, over any program.
-/
import Derived.Test.YtbfakdpnefhgkaaDoorSh
set_option linter.unusedSimpArgs false
set_option linter.unusedVariables false
namespace Go.Proofs.YtbfakdpnefhgkaaDoor.Sl
open Go Go.RowKit Bv Mem
section
variable {P : Program} {N lo : Nat} {s : St} {K : Exit → St → Prop} {F : St → Prop} {id j : Nat}
theorem C.xSeq (h : K (.exit id) s) : seqK F K (.exit id) s := h
theorem C.xHit (h : K .normal s) : blockK id K (.exit id) s := by simp only [blockK, if_true]; exact h
theorem C.xMiss (hne : Nat.beq j id = false) (h : K (.exit j) s) : blockK id K (.exit j) s := by
  simp only [blockK]; rw [if_neg (fun e => by subst e; simp at hne)]; exact h
theorem C.bNormal (h : K .normal s) : blockK id K .normal s := h
theorem C.rSeq (h : K .ret s) : seqK F K .ret s := h
theorem C.rBlock (h : K .ret s) : blockK id K .ret s := h
theorem C.condT {c : Operand} {x y : Code} {b : Bool} (hc : aeval s.fr c = some (.bool b)) (hb : b = true) (h : Sp P N lo x s K) : Sp P N lo (.cond c x y) s K :=
  Sp.cond hc (fun _ => h) (fun e => by rw [hb] at e; cases e)
theorem C.condF {c : Operand} {x y : Code} {b : Bool} (hc : aeval s.fr c = some (.bool b)) (hb : b = false) (h : Sp P N lo y s K) : Sp P N lo (.cond c x y) s K :=
  Sp.cond hc (fun e => by rw [hb] at e; cases e) (fun _ => h)
theorem C.scope {c : Code} {nx : Nat} {fr : Fr} {mem : Mem} {lg : List Foot} (h : Sp P N lo c ⟨nx, fr, mem, lg⟩ (fun e s => match e with | .goto _ => False | e => K e s)) : Sp P N lo (.scope c) ⟨nx, fr, mem, lg⟩ K := by
  refine ⟨fun E a w hs Q hQ => wp_scope_straight (h.run E a w hs _ fun e E' s' a' w' hk hs' hst => ?_)⟩
  cases e with
  | goto l => exact hk.elim
  | _ => exact hQ _ E' s' a' w' hk hs' hst
end
/-! ### What is kept -/
def AllF (fr : Fr) (nx : Nat) : Fr → Prop
  | [] => True
  | (t, v) :: r => (look fr t = some v ∧ N3 (Low nx) v) ∧ AllF fr nx r
def AllM (mem : Mem) (nx : Nat) : Mem → Prop
  | [] => True
  | (n, b) :: r => (∀ x, b = some x → mfind mem n = some x ∧ Low nx n ∧ NB (Low nx) x) ∧ AllM mem nx r
theorem AllF.out {fr : Fr} {nx : Nat} : ∀ {r : Fr}, AllF fr nx r → ∀ t v, look r t = some v → look fr t = some v ∧ N3 (Low nx) v
  | [], _, t, v, h => by cases h
  | (k, x) :: r, h, t, v, hl => by
    rw [look_cons] at hl
    by_cases hk : k = t
    · rw [if_pos hk] at hl; injection hl with hl; subst hl; subst hk; exact h.1
    · rw [if_neg hk] at hl; exact AllF.out h.2 t v hl
theorem AllM.out {mem : Mem} {nx : Nat} : ∀ {r : Mem}, AllM mem nx r → ∀ n b, mfind r n = some b → mfind mem n = some b ∧ Low nx n ∧ NB (Low nx) b
  | [], _, n, b, h => by cases h
  | (k, x) :: r, h, n, b, hl => by
    rw [mfind_cons] at hl
    by_cases hk : k = n
    · rw [if_pos hk] at hl; subst hk; exact h.1 b hl
    · rw [if_neg hk] at hl; exact AllM.out h.2 n b hl
theorem weak_mk {lo nx nx' : Nat} {fr fr' : Fr} {mem mem' : Mem} {lg lg' : List Foot} (h1 : Nat.ble lo nx' = true) (hf : AllF fr nx' fr') (hm : AllM mem nx' mem') : Weak lo ⟨nx, fr, mem, lg⟩ ⟨nx', fr', mem', lg'⟩ :=
  ⟨Nat.le_of_ble_eq_true h1, fun n => n, fun _ _ => rfl, fun _ _ => rfl, fun _ _ _ _ _ _ _ h => h,
    fun t v h => by obtain ⟨h1, h2⟩ := hf.out t v h; refine ⟨?_, h2⟩; show look fr t = some (rn3 idN v); rw [rn3_id]; exact h1,
    fun n b h => by obtain ⟨h1, h2, h3⟩ := hm.out n b h; exact ⟨b, h1, CB.refl b, h2, h3⟩⟩
/-! ### Under other names -/
def sub1 (al : List (Nat × Nat)) (n : Nat) : Nat := match look al n with
  | some c => c
  | none => n
abbrev sN (al : List (Nat × Nat)) : Nm := fun n => some (sub1 al n, 0)
def AllFR (al : List (Nat × Nat)) (fr : Fr) (nx : Nat) : Fr → Prop
  | [] => True
  | (t, v) :: r => (look fr t = some (rn3 (sN al) v) ∧ N3 (Low nx) v) ∧ AllFR al fr nx r
def AllMR (al : List (Nat × Nat)) (mem : Mem) (nx : Nat) : Mem → Prop
  | [] => True
  | (n, b) :: r => (∀ x, b = some x → ∃ b0, mfind mem (sub1 al n) = some b0 ∧ CB (sN al) 0 x b0 ∧ Low nx n ∧ NB (Low nx) x) ∧ AllMR al mem nx r
theorem AllFR.out {al : List (Nat × Nat)} {fr : Fr} {nx : Nat} : ∀ {r : Fr}, AllFR al fr nx r → ∀ t v, look r t = some v → look fr t = some (rn3 (sN al) v) ∧ N3 (Low nx) v
  | [], _, t, v, h => by cases h
  | (k, x) :: r, h, t, v, hl => by
    rw [look_cons] at hl
    by_cases hk : k = t
    · rw [if_pos hk] at hl; injection hl with hl; subst hl; subst hk; exact h.1
    · rw [if_neg hk] at hl; exact AllFR.out h.2 t v hl
theorem AllMR.out {al : List (Nat × Nat)} {mem : Mem} {nx : Nat} : ∀ {r : Mem}, AllMR al mem nx r → ∀ n b, mfind r n = some b → ∃ b0, mfind mem (sub1 al n) = some b0 ∧ CB (sN al) 0 b b0 ∧ Low nx n ∧ NB (Low nx) b
  | [], _, n, b, h => by cases h
  | (k, x) :: r, h, n, b, hl => by
    rw [mfind_cons] at hl
    by_cases hk : k = n
    · rw [if_pos hk] at hl; subst hk; exact h.1 b hl
    · rw [if_neg hk] at hl; exact AllMR.out h.2 n b hl
/-- No two of these names stand for one. -/
def injB (al : List (Nat × Nat)) (ks : List Nat) : Bool := ks.all fun a => ks.all fun b => Nat.beq a b || !Nat.beq (sub1 al a) (sub1 al b)
theorem weak_ren {lo nx nx' : Nat} {fr fr' : Fr} {mem mem' : Mem} {lg lg' : List Foot} (al : List (Nat × Nat)) (h1 : Nat.ble lo nx' = true) (hal : al.all (fun p => Nat.ble lo p.1 && Nat.ble (p.1 + 1) GB) = true) (hinj : injB al (keys mem') = true)
    (hf : AllFR al fr nx' fr') (hm : AllMR al mem nx' mem') : Weak lo ⟨nx, fr, mem, lg⟩ ⟨nx', fr', mem', lg'⟩ := by
  have hlook : ∀ (al : List (Nat × Nat)) (n c : Nat), look al n = some c → (n, c) ∈ al := by
    intro al n c h
    induction al with
    | nil => cases h
    | cons p al ih =>
      obtain ⟨k, x⟩ := p
      rw [look_cons] at h
      by_cases hk : k = n
      · rw [if_pos hk] at h; injection h with h; subst h; subst hk; simp
      · rw [if_neg hk] at h; simp [ih h]
  have hsame : ∀ n, (n < lo ∨ GB ≤ n) → sub1 al n = n := by
    intro n hn
    unfold sub1
    cases h : look al n with
    | none => rfl
    | some c =>
      have := List.all_eq_true.1 hal _ (hlook al n c h)
      simp only [Bool.and_eq_true] at this
      have h1 := Nat.le_of_ble_eq_true this.1
      have h2 := Nat.le_of_ble_eq_true this.2
      omega
  refine ⟨Nat.le_of_ble_eq_true h1, sub1 al, hsame, fun n hn => hsame n (.inr hn), fun n b n' b' g1 g2 _ he => ?_, fun t v h => hf.out t v h, fun n b h => hm.out n b h⟩
  have k1 := List.all_eq_true.1 hinj n (mhas_keys (mhas_of_find g1))
  have k2 := List.all_eq_true.1 k1 n' (mhas_keys (mhas_of_find g2))
  rw [he] at k2
  simp at k2
  exact k2
section
variable {al : List (Nat × Nat)} {fr : Fr} {nx : Nat} {r : Fr} {t : Tmp} {v : Value} {mem : Mem} {rm : Mem} {n c : Nat}
theorem AllFR.nil : AllFR al fr nx [] := trivial
theorem AllFR.pl [h1 : Pl1 v] (h : look fr t = some v) (hr : AllFR al fr nx r) : AllFR al fr nx ((t, v) :: r) := ⟨⟨by rw [h1.rn]; exact h, h1.nm _⟩, hr⟩
theorem AllFR.ptr {o : Nat} (h : look fr t = some (.pointer (some ⟨c, o, none⟩))) (hc : sub1 al n = c) (hn : (Nat.ble (n + 1) nx || Nat.ble GB n) = true) (hr : AllFR al fr nx r) : AllFR al fr nx ((t, .pointer (some ⟨n, o, none⟩)) :: r) :=
  ⟨⟨by subst hc; show look fr t = some (.pointer (some ⟨_, 0 + o, none⟩)); rw [Nat.zero_add]; exact h, by simp only [Bool.or_eq_true] at hn; exact hn.imp Nat.le_of_ble_eq_true Nat.le_of_ble_eq_true⟩, hr⟩
theorem AllFR.sl {o k cp : Nat} (h : look fr t = some (.slice (some ⟨c, o, none⟩) k cp)) (hc : sub1 al n = c) (hn : (Nat.ble (n + 1) nx || Nat.ble GB n) = true) (hr : AllFR al fr nx r) : AllFR al fr nx ((t, .slice (some ⟨n, o, none⟩) k cp) :: r) :=
  ⟨⟨by subst hc; show look fr t = some (.slice (some ⟨_, 0 + o, none⟩) k cp); rw [Nat.zero_add]; exact h, by simp only [Bool.or_eq_true] at hn; exact hn.imp Nat.le_of_ble_eq_true Nat.le_of_ble_eq_true⟩, hr⟩
theorem AllMR.nil : AllMR al mem nx [] := trivial
theorem AllMR.arr {k : IntKind} {w : Nat} {l : List (BitVec w)} {opn rw : Bool} (hc : sub1 al n = c) (h : mfind mem c = some (.cells (arr k l) opn rw)) (hn : (Nat.ble (n + 1) nx || Nat.ble GB n) = true) (hr : AllMR al mem nx rm) : AllMR al mem nx ((n, some (.cells (arr k l) opn rw)) :: rm) :=
  ⟨fun x hx => by
    injection hx with hx; subst hx; subst hc
    exact ⟨_, h, ⟨arr k l, opn, rfl, by omega, fun h => ⟨h, by omega⟩, fun i v hv => by
      rw [Nat.zero_add]
      have := congrArg (·[i]?) (rn1_arr (sN al) k l)
      simp only [Array.getElem?_map, hv, Option.map_some] at this
      rw [this]; exact hv⟩, by simp only [Bool.or_eq_true] at hn; exact hn.imp Nat.le_of_ble_eq_true Nat.le_of_ble_eq_true, NA_arr _ _ _⟩, hr⟩
end
section
variable {fr : Fr} {nx : Nat} {r : Fr} {t : Tmp} {v : Value} {mem : Mem} {rm : Mem} {n : Nat}
theorem AllF.nil : AllF fr nx [] := trivial
theorem AllF.pl [Pl1 v] (h : look fr t = some v) (hr : AllF fr nx r) : AllF fr nx ((t, v) :: r) := ⟨⟨h, Pl1.nm _⟩, hr⟩
theorem low_of {nx n : Nat} (h : (Nat.ble (n + 1) nx || Nat.ble GB n) = true) : Low nx n := by
  simp only [Bool.or_eq_true] at h
  exact h.imp Nat.le_of_ble_eq_true Nat.le_of_ble_eq_true
theorem AllF.ptr {o : Nat} (h : look fr t = some (.pointer (some ⟨n, o, none⟩))) (hn : (Nat.ble (n + 1) nx || Nat.ble GB n) = true) (hr : AllF fr nx r) : AllF fr nx ((t, .pointer (some ⟨n, o, none⟩)) :: r) := ⟨⟨h, low_of hn⟩, hr⟩
theorem AllF.sl {o k c : Nat} (h : look fr t = some (.slice (some ⟨n, o, none⟩) k c)) (hn : (Nat.ble (n + 1) nx || Nat.ble GB n) = true) (hr : AllF fr nx r) : AllF fr nx ((t, .slice (some ⟨n, o, none⟩) k c) :: r) := ⟨⟨h, low_of hn⟩, hr⟩
theorem AllF.map (h : look fr t = some (.map (some n))) (hn : (Nat.ble (n + 1) nx || Nat.ble GB n) = true) (hr : AllF fr nx r) : AllF fr nx ((t, .map (some n)) :: r) := ⟨⟨h, low_of hn⟩, hr⟩
theorem AllF.any (h : look fr t = some v) (hn : N3 (Low nx) v) (hr : AllF fr nx r) : AllF fr nx ((t, v) :: r) := ⟨⟨h, hn⟩, hr⟩
theorem AllM.nil : AllM mem nx [] := trivial
theorem AllM.arr {k : IntKind} {w : Nat} {l : List (BitVec w)} {opn rw : Bool} (h : mfind mem n = some (.cells (arr k l) opn rw)) (hn : (Nat.ble (n + 1) nx || Nat.ble GB n) = true) (hr : AllM mem nx rm) : AllM mem nx ((n, some (.cells (arr k l) opn rw)) :: rm) :=
  ⟨fun x hx => by injection hx with hx; subst hx; exact ⟨h, low_of hn, NA_arr _ _ _⟩, hr⟩
theorem NA_plain {C : Array Value} (h : C.all plain0 = true) (S : Nat → Prop) : NA (N1 S) C := by
  intro i v hv
  have h1 := Array.all_eq_true_iff_forall_mem.1 h v (Array.mem_of_getElem? hv)
  unfold plain0 at h1
  split at h1 <;> first | trivial | cases h1
theorem AllM.pl {C : Array Value} {opn rw : Bool} (hp : C.all plain0 = true) (h : mfind mem n = some (.cells C opn rw)) (hn : (Nat.ble (n + 1) nx || Nat.ble GB n) = true) (hr : AllM mem nx rm) : AllM mem nx ((n, some (.cells C opn rw)) :: rm) :=
  ⟨fun x hx => by injection hx with hx; subst hx; exact ⟨h, low_of hn, NA_plain hp _⟩, hr⟩
theorem AllM.any {b : ABlk} (h : mfind mem n = some b) (hn : (Nat.ble (n + 1) nx || Nat.ble GB n) = true) (hb : NB (Low nx) b) (hr : AllM mem nx rm) : AllM mem nx ((n, some b) :: rm) :=
  ⟨fun x hx => by injection hx with hx; subst hx; exact ⟨h, low_of hn, hb⟩, hr⟩
/-- The cells of a short row one by one. -/
theorem NA.cons {S : Nat → Prop} {v : Value} {l : List Value} (h : N1 S v) (hr : NA (N1 S) l.toArray) : NA (N1 S) (v :: l).toArray := by
  intro i x hx
  cases i with
  | zero => simp at hx; subst hx; exact h
  | succ i => exact hr i x (by simpa using hx)
theorem NA.nil {S : Nat → Prop} : NA (N1 S) [].toArray := by intro i x hx; simp at hx
end
end Go.Proofs.YtbfakdpnefhgkaaDoor.Sl
