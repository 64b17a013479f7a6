/-
  A region that draws its order: what it does in the text's order it does in every order, where no operation disturbs another that may come before it. Plain lemmas, over any program.
-/
import Derived.Test.YtbfakdpnefhgkaaDoorSg
set_option linter.unusedSimpArgs false
set_option linter.unusedVariables false
namespace Go.Proofs.YtbfakdpnefhgkaaDoor.Sl
open Go Go.RowKit Bv Mem
/-- Number k comes before number i. -/
inductive Anc (ops : List Oper) (k : Nat) : Nat → Prop
  | edge {i : Nat} {o : Oper} {e : Edge} (ho : ops[i]? = some o) (he : e ∈ o.after) (hb : Region.binds .any e = true) (hk : e.on = k) : Anc ops k i
  | step {i : Nat} {o : Oper} {e : Edge} (ho : ops[i]? = some o) (he : e ∈ o.after) (hb : Region.binds .any e = true) (h : Anc ops k e.on) : Anc ops k i
theorem mask_fold {acc : List Nat} {k : Nat} : ∀ (es : List Edge) (s : Nat), (es.foldl (fun s e => bif Region.binds .any e then s ||| 2 ^ e.on ||| acc.getD e.on 0 else s) s).testBit k = true →
    s.testBit k = true ∨ ∃ e, e ∈ es ∧ Region.binds .any e = true ∧ (e.on = k ∨ (acc.getD e.on 0).testBit k = true)
  | [], s, h => .inl h
  | e :: es, s, h => by
    simp only [List.foldl_cons] at h
    rcases mask_fold es _ h with h1 | ⟨e', he', h2⟩
    · cases hb : Region.binds .any e with
      | false => rw [hb] at h1; exact .inl h1
      | true =>
        rw [hb] at h1
        simp only [cond_true, Nat.testBit_or, Bool.or_eq_true, Nat.testBit_two_pow, decide_eq_true_eq] at h1
        rcases h1 with (h1 | h1) | h1
        · exact .inl h1
        · exact .inr ⟨e, by simp, hb, .inl h1⟩
        · exact .inr ⟨e, by simp, hb, .inr h1⟩
    · exact .inr ⟨e', by simp [he'], h2⟩
theorem masks_spec (full : List Oper) : ∀ (l pre : List Oper) (acc : List Nat), full = pre ++ l → acc.length = pre.length → (∀ (i m : Nat), acc[i]? = some m → ∀ k, m.testBit k = true → Anc full k i) →
    ∀ (i m : Nat), (masks l acc)[i]? = some m → ∀ k, m.testBit k = true → Anc full k i
  | [], pre, acc, _, _, h => h
  | o :: l, pre, acc, hf, hl, h => by
    simp only [masks]
    refine masks_spec full l (pre ++ [o]) _ (by simp [hf]) (by simp [hl]) ?_
    intro i m hi k hk
    rcases Nat.lt_or_ge i acc.length with hlt | hge
    · rw [List.getElem?_append_left hlt] at hi
      exact h i m hi k hk
    · rw [List.getElem?_append_right hge] at hi
      have hi0 : i = acc.length := by
        have := (List.getElem?_eq_some_iff.1 hi).1
        simp at this; omega
      subst hi0
      simp at hi
      subst hi
      have ho : full[acc.length]? = some o := by rw [hf, hl]; simp
      rcases mask_fold _ _ hk with h1 | ⟨e, he, hb, h1 | h1⟩
      · simp at h1
      · exact .edge ho (by simpa using he) hb h1
      · refine .step ho (by simpa using he) hb ?_
        cases ha : acc[e.on]? with
        | none => simp [List.getD_eq_getElem?_getD, ha] at h1
        | some m' => simp only [List.getD_eq_getElem?_getD, ha, Option.getD_some] at h1; exact h e.on m' ha k h1
theorem cmp_anc {l : List Oper} {i k : Nat} (h : cmpB (masks l []) i k = true) : Anc l k i ∨ Anc l i k := by
  have key : ∀ i k, ((masks l []).getD i 0).testBit k = true → Anc l k i := by
    intro i k h
    cases hm : (masks l [])[i]? with
    | none => simp [List.getD_eq_getElem?_getD, hm] at h
    | some m =>
      simp only [List.getD_eq_getElem?_getD, hm, Option.getD_some] at h
      exact masks_spec l l [] [] rfl rfl (fun i m h => by simp at h) i m hm k h
  simp only [cmpB, Bool.or_eq_true] at h
  exact h.imp (key i k) (key k i)
/-- The check of a region's text: edges point back; two operations that no edge parts have nothing to do with each other's slots. -/
def slotB (ops : Array Oper) (x y : Oper) : Bool :=
  match x.dst with
  | some d => !(y.looksAt ops).contains d && !(match y.dst with | some e => Nat.beq d e | none => false)
  | none => true
def statB (l : List Oper) : Bool :=
  let ms := masks l []
  let ls := l.zipIdx
  let a := l.toArray
  ls.all fun (o, i) => (o.after.toList.all fun e => Nat.ble (e.on + 1) i || !Region.binds .any e) && ls.all fun (p, k) => Nat.beq i k || cmpB ms i k || (slotB a o p)
theorem mem_zipIdx_of {α : Type} {l : List α} {i : Nat} {x : α} (h : l[i]? = some x) : (x, i) ∈ l.zipIdx := by
  rw [List.mem_zipIdx_iff_getElem?]; simpa using h
theorem statB.back {l : List Oper} (h : statB l = true) {i : Nat} {o : Oper} (ho : l[i]? = some o) {e : Edge} (he : e ∈ o.after) (hb : Region.binds .any e = true) : e.on < i := by
  have h1 := List.all_eq_true.1 h (o, i) (mem_zipIdx_of ho)
  simp only [Bool.and_eq_true] at h1
  have h2 := List.all_eq_true.1 h1.1 e (by simpa using he)
  simp only [hb, Bool.not_true, Bool.or_false] at h2
  exact Nat.le_of_ble_eq_true h2
theorem statB.slot {l : List Oper} (h : statB l = true) {i k : Nat} {o p : Oper} (ho : l[i]? = some o) (hp : l[k]? = some p) (hne : i ≠ k) (hc : ¬ (Anc l k i ∨ Anc l i k)) : slotB l.toArray o p = true := by
  have h1 := List.all_eq_true.1 h (o, i) (mem_zipIdx_of ho)
  simp only [Bool.and_eq_true] at h1
  have h2 := List.all_eq_true.1 h1.2 (p, k) (mem_zipIdx_of hp)
  simp only [Bool.or_eq_true] at h2
  rcases h2 with (h2 | h2) | h2
  · exact absurd (Nat.eq_of_beq_eq_true h2) hne
  · exact absurd (cmp_anc h2) hc
  · exact h2
theorem Anc.lt {l : List Oper} (h : statB l = true) {k i : Nat} (ha : Anc l k i) : k < i := by
  induction ha with
  | edge ho he hb hk => subst hk; exact statB.back h ho he hb
  | step ho he hb _ ih => exact Nat.lt_trans ih (statB.back h ho he hb)
/-- What has come up holds with each operation those that come before it. -/
def Closed (l : List Oper) (L : Nat → Bool) : Prop := ∀ i o e, L i = true → l[i]? = some o → e ∈ o.after → Region.binds .any e = true → L e.on = true
theorem Closed.anc {l : List Oper} {L : Nat → Bool} (h : Closed l L) {k i : Nat} (ha : Anc l k i) (hi : L i = true) : L k = true := by
  induction ha with
  | edge ho he hb hk => subst hk; exact h _ _ _ hi ho he hb
  | step ho he hb _ ih => exact ih (h _ _ _ hi ho he hb)
/-- A run in the text's order, written out. -/
abbrev Q3 := Oper × Rec × Value × Mem × Nat
def adv (s : St) (q : Q3) : St := ⟨q.2.2.2.2, putF s.fr q.1.dst q.2.2.1, q.2.2.2.1 ++ s.m, ⟨keys q.2.1.m, keys q.2.2.2.1⟩ :: s.log⟩
def at3 (s : St) (qs : List Q3) (i : Nat) : St := (qs.take i).foldl adv s
structure Good (P : Program) (N : Nat) (ops : Array Oper) (s : St) (q : Q3) : Prop where
  fr : q.2.1.fr = s.fr
  ok : OpOk P ops q.1 q.2.1 (fun v' m' => v' = q.2.2.1 ∧ m' = q.2.2.2.1)
  sub : Sub q.2.1.m s.m
  new : ∀ n, n ∈ q.2.1.new → s.nx ≤ n ∧ n < q.2.2.2.2 ∧ n < GB
  nx : s.nx ≤ q.2.2.2.2
  dst : ∀ d, q.1.dst = some d → d < N
theorem SpL.told {P : Program} {N lo : Nat} {ops : Array Oper} {l : List Oper} {s : St} {K : St → Prop} (h : SpL P N lo ops true l s K) :
    ∃ qs : List Q3, qs.map (·.1) = l ∧ (∀ i q, qs[i]? = some q → Good P N ops (at3 s qs i) q) ∧ dynB ops.toList (at3 s qs qs.length).log = true ∧ K ⟨(at3 s qs qs.length).nx, (at3 s qs qs.length).fr, (at3 s qs qs.length).m, []⟩ := by
  induction h with
  | nil hd hk => exact ⟨[], rfl, fun i q h => by simp at h, hd rfl, hk⟩
  | @op o rest s K m0 m' new v nx' hop hsub hnew hnx hd h ih =>
    obtain ⟨qs, h1, h2, h3, h4⟩ := ih
    let q : Q3 := (o, ⟨s.fr, m0, new⟩, v, m', nx')
    have hat : ∀ i, at3 s (q :: qs) (i + 1) = at3 (adv s q) qs i := fun i => by simp [at3]
    refine ⟨q :: qs, by simp [h1, q], fun i x hx => ?_, ?_, ?_⟩
    · cases i with
      | zero => simp at hx; subst hx; exact ⟨rfl, hop, hsub, hnew, hnx, hd⟩
      | succ i => rw [hat]; exact h2 i x (by simpa using hx)
    · rw [List.length_cons, hat]; exact h3
    · rw [List.length_cons, hat]; exact h4
  | opN nx' hdr => cases hdr
/-- Slots and memory behind a part of the operations. -/
def frL : List Q3 → Nat → (Nat → Bool) → Fr → Fr
  | [], _, _, fr => fr
  | q :: qs, i, L, fr => frL qs (i + 1) L (bif L i then putF fr q.1.dst q.2.2.1 else fr)
def memL : List Q3 → Nat → (Nat → Bool) → Mem → Mem
  | [], _, _, m => m
  | q :: qs, i, L, m => memL qs (i + 1) L (bif L i then q.2.2.2.1 ++ m else m)
theorem look_putF (fr : Fr) (d : Option Tmp) (v : Value) (t : Tmp) : look (putF fr d v) t = if d = some t then some v else look fr t := by
  cases d with
  | none => rw [if_neg (by simp)]; rfl
  | some d =>
    simp only [putF]
    rw [look_cons]
    by_cases h : d = t
    · subst h; rw [if_pos rfl, if_pos rfl]
    · rw [if_neg h, if_neg (by simpa using h)]
theorem frL_congr {t : Tmp} {L L' : Nat → Bool} : ∀ (qs : List Q3) (i : Nat) (fr fr' : Fr), look fr t = look fr' t → (∀ (k : Nat) q, qs[k]? = some q → q.1.dst = some t → L (i + k) = L' (i + k)) → look (frL qs i L fr) t = look (frL qs i L' fr') t
  | [], i, fr, fr', h, _ => h
  | q :: qs, i, fr, fr', h, hL => by
    simp only [frL]
    refine frL_congr qs (i + 1) _ _ ?_ (fun k x hx hd => by have := hL (k + 1) x (by simpa using hx) hd; rwa [show i + (k + 1) = i + 1 + k by omega] at this)
    by_cases hd : q.1.dst = some t
    · have := hL 0 q rfl hd
      rw [Nat.add_zero] at this
      rw [this]
      cases L' i
      · exact h
      · show look (putF _ _ _) t = look (putF _ _ _) t
        rw [look_putF, look_putF, if_pos hd, if_pos hd]
    · have e : ∀ b fr, look (bif b then putF fr q.1.dst q.2.2.1 else fr) t = look fr t := by
        intro b fr
        cases b
        · rfl
        · show look (putF _ _ _) t = _
          rw [look_putF, if_neg hd]
      rw [e, e]; exact h
theorem memL_congr {n : Nat} {L L' : Nat → Bool} : ∀ (qs : List Q3) (i : Nat) (m m' : Mem), mfind m n = mfind m' n → (∀ (k : Nat) q, qs[k]? = some q → mhas q.2.2.2.1 n = true → L (i + k) = L' (i + k)) → mfind (memL qs i L m) n = mfind (memL qs i L' m') n
  | [], i, m, m', h, _ => h
  | q :: qs, i, m, m', h, hL => by
    simp only [memL]
    refine memL_congr qs (i + 1) _ _ ?_ (fun k x hx hd => by have := hL (k + 1) x (by simpa using hx) hd; rwa [show i + (k + 1) = i + 1 + k by omega] at this)
    cases hh : mhas q.2.2.2.1 n with
    | true =>
      have := hL 0 q rfl hh
      rw [Nat.add_zero] at this
      rw [this]
      cases L' i
      · exact h
      · show mfind (_ ++ _) n = mfind (_ ++ _) n
        rw [mfind_append, mfind_append, hh]; rfl
    | false =>
      have e : ∀ b m, mfind (bif b then q.2.2.2.1 ++ m else m) n = mfind m n := by
        intro b m
        cases b
        · rfl
        · show mfind (_ ++ _) n = _
          rw [mfind_append, hh]; rfl
      rw [e, e]; exact h
theorem frL_pre : ∀ (qs : List Q3) (j i : Nat) (s : St), frL qs j (fun k => decide (k < i)) s.fr = ((qs.take (i - j)).foldl adv s).fr
  | [], j, i, s => by simp [frL]
  | q :: qs, j, i, s => by
    simp only [frL]
    by_cases h : j < i
    · rw [show i - j = (i - (j + 1)) + 1 by omega]
      simp only [List.take_succ_cons, List.foldl_cons, h, decide_true, cond_true]
      exact frL_pre qs (j + 1) i (adv s q)
    · rw [show i - j = 0 by omega]
      simp only [h, decide_false, cond_false, List.take_zero, List.foldl_nil]
      have := frL_pre qs (j + 1) i s
      rwa [show i - (j + 1) = 0 by omega] at this
theorem memL_pre : ∀ (qs : List Q3) (j i : Nat) (s : St), memL qs j (fun k => decide (k < i)) s.m = ((qs.take (i - j)).foldl adv s).m
  | [], j, i, s => by simp [memL]
  | q :: qs, j, i, s => by
    simp only [memL]
    by_cases h : j < i
    · rw [show i - j = (i - (j + 1)) + 1 by omega]
      simp only [List.take_succ_cons, List.foldl_cons, h, decide_true, cond_true]
      exact memL_pre qs (j + 1) i (adv s q)
    · rw [show i - j = 0 by omega]
      simp only [h, decide_false, cond_false, List.take_zero, List.foldl_nil]
      have := memL_pre qs (j + 1) i s
      rwa [show i - (j + 1) = 0 by omega] at this
theorem at3_log : ∀ (qs : List Q3) (s : St), (qs.foldl adv s).log = (qs.map fun q => (⟨keys q.2.1.m, keys q.2.2.2.1⟩ : Foot)).reverse ++ s.log
  | [], s => rfl
  | q :: qs, s => by
    simp only [List.foldl_cons, List.map_cons, List.reverse_cons]
    rw [at3_log qs (adv s q)]
    simp [adv]
theorem disj_out {a b : List Nat} (h : disj a b = true) {n : Nat} (ha : n ∈ a) (hb : n ∈ b) : False := by
  have := List.all_eq_true.1 h n ha
  simp [hb] at this
/-- Two operations that no edge parts have nothing to do with each other's memory. -/
theorem dyn_out {l : List Oper} {qs : List Q3} {s : St} (hlog : s.log = []) (h : dynB l (at3 s qs qs.length).log = true) {i k : Nat} {q p : Q3} (hq : qs[i]? = some q) (hp : qs[k]? = some p) (hne : i ≠ k) (hc : ¬ (Anc l k i ∨ Anc l i k)) {n : Nat} (hw : mhas p.2.2.2.1 n = true) :
    mhas q.2.1.m n = false ∧ mhas q.2.2.2.1 n = false := by
  have hl : (at3 s qs qs.length).log.reverse = qs.map fun q => (⟨keys q.2.1.m, keys q.2.2.2.1⟩ : Foot) := by
    unfold at3
    rw [List.take_length, at3_log, hlog]; simp
  unfold dynB at h
  rw [hl] at h
  have key : ∀ (i k : Nat) (q p : Q3), qs[i]? = some q → qs[k]? = some p → i < k → ¬ (Anc l k i ∨ Anc l i k) → disj (keys q.2.2.2.1) (keys p.2.1.m) = true ∧ disj (keys p.2.2.2.1) (keys q.2.1.m) = true ∧ disj (keys q.2.2.2.1) (keys p.2.2.2.1) = true := by
    intro i k q p hq hp hik hc
    have h1 := List.all_eq_true.1 h _ (mem_zipIdx_of (l := qs.map fun q => (⟨keys q.2.1.m, keys q.2.2.2.1⟩ : Foot)) (i := i) (by rw [List.getElem?_map, hq]; rfl))
    have h2 := List.all_eq_true.1 h1 _ (mem_zipIdx_of (l := qs.map fun q => (⟨keys q.2.1.m, keys q.2.2.2.1⟩ : Foot)) (i := k) (by rw [List.getElem?_map, hp]; rfl))
    simp only [Bool.or_eq_true, Bool.and_eq_true] at h2
    rcases h2 with (h2 | h2) | h2
    · exact absurd (Nat.le_of_ble_eq_true h2) (by omega)
    · exact absurd (cmp_anc h2) hc
    · exact ⟨h2.1.1, h2.1.2, h2.2⟩
  rcases Nat.lt_or_ge i k with hik | hik
  · obtain ⟨h1, h2, h3⟩ := key i k q p hq hp hik hc
    refine ⟨?_, ?_⟩
    · cases hh : mhas q.2.1.m n with
      | false => rfl
      | true => exact (disj_out h2 (mhas_keys hw) (mhas_keys hh)).elim
    · cases hh : mhas q.2.2.2.1 n with
      | false => rfl
      | true => exact (disj_out h3 (mhas_keys hh) (mhas_keys hw)).elim
  · obtain ⟨h1, h2, h3⟩ := key k i p q hp hq (by omega) (fun h => hc h.symm)
    refine ⟨?_, ?_⟩
    · cases hh : mhas q.2.1.m n with
      | false => rfl
      | true => exact (disj_out h1 (mhas_keys hw) (mhas_keys hh)).elim
    · cases hh : mhas q.2.2.2.1 n with
      | false => rfl
      | true => exact (disj_out h3 (mhas_keys hw) (mhas_keys hh)).elim
theorem at3_succ {s : St} {qs : List Q3} {i : Nat} {q : Q3} (h : qs[i]? = some q) : at3 s qs (i + 1) = adv (at3 s qs i) q := by
  have hlt := (List.getElem?_eq_some_iff.1 h).1
  unfold at3
  rw [List.take_add_one, h]
  simp
section
variable {P : Program} {N lo : Nat} {l : List Oper} {s : St} {qs : List Q3}
theorem at3_mono (good : ∀ (i : Nat) q, qs[i]? = some q → Good P N l.toArray (at3 s qs i) q) : ∀ {i k : Nat}, i ≤ k → k ≤ qs.length → (at3 s qs i).nx ≤ (at3 s qs k).nx := by
  intro i k hik hk
  induction k with
  | zero => rw [show i = 0 by omega]; exact Nat.le_refl _
  | succ k ih =>
    rcases Nat.lt_or_ge i (k + 1) with h | h
    · have hq : qs[k]? = some qs[k] := List.getElem?_eq_getElem (by omega)
      rw [at3_succ hq]
      exact Nat.le_trans (ih (by omega) (by omega)) (good k _ hq).nx
    · rw [show i = k + 1 by omega]; exact Nat.le_refl _
/-- What holds while the operations of a region come up in some order. -/
structure DInv (N lo : Nat) (l : List Oper) (s : St) (qs : List Q3) (E0 : Env) (w0 : World) (L : Array Bool) (E : Env) (a : Act) (w : World) : Prop where
  size : L.size = l.length
  closed : Closed l (fun k => L.getD k false)
  asize : a.tmps.size = N
  defers : a.defers = []
  fr : ∀ t v, look (frL qs 0 (fun k => L.getD k false) s.fr) t = some v → ∃ u, a.tmps[t]? = some u ∧ R3 E v u
  rep : Rep E (memL qs 0 (fun k => L.getD k false) s.m) w
  fresh : ∀ (k : Nat) q, qs[k]? = some q → L.getD k false = false → ∀ n, n ∈ q.2.1.new → E n = none
  fresh2 : ∀ n, (at3 s qs qs.length).nx ≤ n → n < GB → E n = none
  step : Step lo E0 s.m w0 E (memL qs 0 (fun k => L.getD k false) s.m) w
theorem getD_set (L : Array Bool) (i k : Nat) (hi : i < L.size) : (L.setIfInBounds i true).getD k false = if k = i then true else L.getD k false := by
  by_cases h : k = i
  · subst h; simp [hi]
  · rw [if_neg h]; exact getD_set_ne false (fun e => h e.symm)
theorem DInv.op {E0 : Env} {w0 : World} {L : Array Bool} {E : Env} {a : Act} {w : World} (hst : statB l = true) (hqs : qs.map (·.1) = l) (hlog : s.log = []) (hlo : lo ≤ s.nx) (good : ∀ (i : Nat) q, qs[i]? = some q → Good P N l.toArray (at3 s qs i) q)
    (hdyn : dynB l (at3 s qs qs.length).log = true) (h : DInv N lo l s qs E0 w0 L E a w) {i : Nat} (hi : i ∈ Region.ready .any l.toArray L) {next : Act → World → Prop} {Q : Exit → Act → World → Prop}
    (hnext : ∀ E' a' w', DInv N lo l s qs E0 w0 (L.setIfInBounds i true) E' a' w' → next a' w') : wpOp P l.toArray Q i next a w := by
  obtain ⟨hup, o, ho, hdeps⟩ := mem_ready.1 hi
  have ho' : l[i]? = some o := by simpa using ho
  have hil : i < l.length := (List.getElem?_eq_some_iff.1 ho').1
  have hlen : qs.length = l.length := by rw [← hqs]; simp
  obtain ⟨q, hq⟩ : ∃ q, qs[i]? = some q := ⟨_, List.getElem?_eq_getElem (by omega)⟩
  have hqo : q.1 = o := by
    have := congrArg (·[i]?) hqs
    simp only [List.getElem?_map, hq, ho', Option.map_some] at this
    injection this
  obtain ⟨o', r, v, m', nx'⟩ := q
  dsimp only at hqo
  subst hqo
  have g := good i _ hq
  have hLi : L.getD i false = false := by
    have : i < L.size := by rw [h.size]; exact hil
    simp [this] at hup ⊢; exact hup
  have opAt : ∀ (k : Nat) p, qs[k]? = some p → l[k]? = some p.1 := by
    intro k p hp; rw [← hqs, List.getElem?_map, hp]; rfl
  have key1 : ∀ k, Anc l k i → L.getD k false = true := by
    intro k ha
    cases ha with
    | edge ho2 he hb hk =>
      rw [ho'] at ho2; injection ho2 with ho2; subst ho2; subst hk
      exact hdeps _ he hb
    | step ho2 he hb h2 =>
      rw [ho'] at ho2; injection ho2 with ho2; subst ho2
      exact h.closed.anc h2 (hdeps _ he hb)
  have key2 : ∀ k, Anc l i k → L.getD k false = false := by
    intro k ha
    cases hk : L.getD k false with
    | false => rfl
    | true => have := h.closed.anc ha hk; rw [hLi] at this; cases this
  have agree : ∀ k, Anc l k i ∨ Anc l i k → L.getD k false = decide (k < i) := by
    rintro k (ha | ha)
    · rw [key1 k ha, decide_eq_true (ha.lt hst)]
    · rw [key2 k ha, decide_eq_false (by have := ha.lt hst; omega)]
  -- the slots that it looks at
  have slots : ∀ t, t ∈ o'.looksAt l.toArray → look (frL qs 0 (fun k => L.getD k false) s.fr) t = look (at3 s qs i).fr t := by
    intro t ht
    rw [frL_congr (L' := fun k => decide (k < i)) qs 0 s.fr s.fr rfl ?_, frL_pre qs 0 i s]
    · rfl
    · intro k p hp hd
      rw [Nat.zero_add]
      by_cases hki : k = i
      · subst hki; rw [hLi]; simp
      · by_cases hc : Anc l i k ∨ Anc l k i
        · exact agree k hc.symm
        · have h1 := statB.slot hst (opAt k p hp) ho' hki (fun h => hc h)
          simp only [slotB, hd, Bool.and_eq_true] at h1
          have h2 := h1.1
          simp at h2
          exact absurd ht h2
  have names : ∀ n, mhas r.m n = true ∨ mhas m' n = true → mfind (memL qs 0 (fun k => L.getD k false) s.m) n = mfind (at3 s qs i).m n := by
    intro n hn
    rw [memL_congr (L' := fun k => decide (k < i)) qs 0 s.m s.m rfl ?_, memL_pre qs 0 i s]
    · rfl
    · intro k p hp hd
      rw [Nat.zero_add]
      by_cases hki : k = i
      · subst hki; rw [hLi]; simp
      · by_cases hc : Anc l i k ∨ Anc l k i
        · exact agree k hc.symm
        · obtain ⟨h1, h2⟩ := dyn_out hlog hdyn hq hp (fun e => hki e.symm) (fun h => hc h.symm) hd
          dsimp only at h1 h2
          rcases hn with hn | hn
          · rw [h1] at hn; cases hn
          · rw [h2] at hn; cases hn
  have hsub : Sub r.m (memL qs 0 (fun k => L.getD k false) s.m) := by
    intro n b hb
    obtain ⟨b0, h0, hw⟩ := g.sub n b hb
    exact ⟨b0, (names n (.inl (mhas_of_find hb))).trans h0, hw⟩
  have newB : ∀ n, n ∈ r.new → (at3 s qs i).nx ≤ n ∧ n < (at3 s qs (i + 1)).nx ∧ n < GB := by
    intro n hn
    rw [at3_succ hq]
    exact g.new n hn
  have s0 : s.nx ≤ (at3 s qs i).nx := by
    have := at3_mono good (Nat.zero_le i) (by omega)
    simpa [at3] using this
  have run := g.ok.run E a w (fun t ht v hv => h.fr t v (by rw [slots t ht]; rw [g.fr] at hv; exact hv)) (h.rep.sub hsub) (fun n hn => ⟨h.fresh i _ hq hLi n hn, (newB n hn).2.2⟩) next Q ?_
  · unfold wpOp
    simp only [ho]
    split at run
    · rename_i hw; rw [if_pos hw]; exact .inl run
    · rename_i hw; rw [if_neg hw]; exact run
  rintro E' v' u m'' w' ⟨rfl, rfl⟩ hle hnw hr hrep hkept
  have hLsz : i < L.size := by rw [h.size]; exact hil
  have hLb : ∀ k, (L.setIfInBounds i true).getD k false = if k = i then true else L.getD k false := fun k => getD_set L i k hLsz
  have hbk := g.ok.back v' m'' ⟨rfl, rfl⟩
  have hnotnew : ∀ n b, mfind (memL qs 0 (fun k => L.getD k false) s.m) n = some b → n ∉ r.new := by
    intro n b hb hn
    obtain ⟨lc, hl, _⟩ := h.rep.at_ n b hb
    rw [h.fresh i _ hq hLi n hn] at hl; cases hl
  have hM' : ∀ n b, mfind (memL qs 0 (fun k => (L.setIfInBounds i true).getD k false) s.m) n = some b → mfind m'' n = some b ∨ (mfind (memL qs 0 (fun k => L.getD k false) s.m) n = some b ∧ n ∉ r.new ∧ ∀ b0, mfind r.m n = some b0 → b0.rw = false) := by
    intro n b hb
    cases hh : mhas m'' n with
    | true =>
      left
      rw [memL_congr (L' := fun k => decide (k < i + 1)) qs 0 s.m s.m rfl ?_, memL_pre qs 0 (i + 1) s] at hb
      · have e : ((qs.take (i + 1 - 0)).foldl adv s).m = m'' ++ (at3 s qs i).m := by
          have := at3_succ (s := s) hq
          exact congrArg St.m this
        rw [e, mfind_append, hh] at hb
        exact hb
      · intro k p hp hd
        rw [Nat.zero_add, hLb]
        by_cases hki : k = i
        · subst hki; simp
        · rw [if_neg hki]
          by_cases hc : Anc l i k ∨ Anc l k i
          · rw [agree k hc.symm, Bool.eq_iff_iff]; simp; omega
          · obtain ⟨h1, h2⟩ := dyn_out hlog hdyn hq hp (fun e => hki e.symm) (fun h => hc h.symm) hd
            dsimp only at h2
            rw [h2] at hh; cases hh
    | false =>
      right
      rw [memL_congr (L' := fun k => L.getD k false) qs 0 s.m s.m rfl ?_] at hb
      · refine ⟨hb, hnotnew n b hb, fun b0 h0 => ?_⟩
        cases hrw : b0.rw with
        | false => rfl
        | true => rw [hbk.all n b0 h0 hrw] at hh; cases hh
      · intro k p hp hd
        rw [Nat.zero_add, hLb]
        by_cases hki : k = i
        · subst hki
          rw [hq] at hp; injection hp with hp; subst hp
          dsimp only at hd
          rw [hd] at hh; cases hh
        · rw [if_neg hki]
  have hsub' : ∀ n b, mfind r.m n = some b → ∃ b0, mfind (memL qs 0 (fun k => L.getD k false) s.m) n = some b0 ∧ (b.rw = true → b0.rw = true) := fun n b hb =>
    let ⟨b0, h0, hw⟩ := hsub n b hb
    ⟨b0, h0, hw.rw⟩
  refine hnext E' _ w' ⟨by simpa using h.size, ?_, ?_, ?_, ?_, h.rep.frame hle hkept hrep hnw hsub' hbk.ro hM', ?_, ?_, h.step.trans ⟨fun n hn => hnw n fun hm => ?_, Kept.frame h.rep.toRep0 hle hkept hnw hsub' hM'⟩⟩
  · intro j o2 e hj ho2 he hb
    dsimp only at hj ⊢
    rw [hLb] at hj ⊢
    by_cases hji : j = i
    · subst hji
      rw [ho'] at ho2; injection ho2 with ho2; subst ho2
      rw [hdeps e he hb]; simp
    · rw [if_neg hji] at hj
      have := h.closed j o2 e hj ho2 he hb
      dsimp only at this
      rw [this]; simp
  · cases hdd : o'.dst <;> simp [Act.put, h.asize]
  · cases hdd : o'.dst <;> simp [Act.put, h.defers]
  · intro t x hx
    by_cases hd : o'.dst = some t
    · rw [frL_congr (L' := fun k => decide (k < i + 1)) qs 0 s.fr s.fr rfl ?_, frL_pre qs 0 (i + 1) s] at hx
      · have e : ((qs.take (i + 1 - 0)).foldl adv s).fr = putF (at3 s qs i).fr o'.dst v' := by
          have := at3_succ (s := s) hq
          exact congrArg St.fr this
        rw [e, look_putF, if_pos hd] at hx
        injection hx with hx; subst hx
        have hdN : t < N := g.dst t hd
        exact ⟨u, by simp [Act.put, hd, h.asize, hdN], hr⟩
      · intro k p hp hdp
        rw [Nat.zero_add, hLb]
        by_cases hki : k = i
        · subst hki; simp
        · rw [if_neg hki]
          by_cases hc : Anc l i k ∨ Anc l k i
          · rw [agree k hc.symm, Bool.eq_iff_iff]; simp; omega
          · have h1 := statB.slot hst (opAt k p hp) ho' hki (fun h => hc h)
            simp only [slotB, hdp, hd, Bool.and_eq_true] at h1
            have h2 := h1.2
            simp at h2
    · rw [frL_congr (L' := fun k => L.getD k false) qs 0 s.fr s.fr rfl ?_] at hx
      · obtain ⟨y, hy, hry⟩ := h.fr t x hx
        refine ⟨y, ?_, hry.le hle⟩
        cases hdd : o'.dst with
        | none => simpa [Act.put, hdd] using hy
        | some d =>
          have : d ≠ t := fun e => hd (by rw [hdd, e])
          simp [Act.put, Array.getElem?_setIfInBounds_ne this, hy]
      · intro k p hp hdp
        rw [Nat.zero_add, hLb]
        by_cases hki : k = i
        · subst hki
          rw [hq] at hp; injection hp with hp; subst hp
          exact absurd hdp hd
        · rw [if_neg hki]
  · intro k q2 hq2 hk n hn
    rw [hLb] at hk
    by_cases hki : k = i
    · rw [if_pos hki] at hk; cases hk
    · rw [if_neg hki] at hk
      have hkl : k < qs.length := (List.getElem?_eq_some_iff.1 hq2).1
      have hB : (at3 s qs k).nx ≤ n ∧ n < (at3 s qs (k + 1)).nx := by
        have := (good k q2 hq2).new n hn
        rw [at3_succ hq2]; exact ⟨this.1, this.2.1⟩
      rw [hnw n ?_]
      · exact h.fresh k q2 hq2 hk n hn
      · intro hm
        have h1 := newB n hm
        rcases Nat.lt_or_ge k i with hlt | hge
        · have := at3_mono good (i := k + 1) (k := i) (by omega) (by omega); omega
        · have := at3_mono good (i := i + 1) (k := k) (by omega) (by omega); omega
  · intro n h1 h2
    rw [hnw n ?_]
    · exact h.fresh2 n h1 h2
    · intro hm
      have h3 := newB n hm
      have := at3_mono good (i := i + 1) (k := qs.length) (by omega) (by omega)
      omega
  · have h1 := newB n hm
    unfold Low at hn
    omega
theorem all_up {L : Array Bool} (hst : statB l = true) (hsz : L.size = l.length) (h : Region.ready .any l.toArray L = []) : ∀ k, k < l.length → L.getD k false = true := by
  intro k
  induction k using Nat.strongRecOn with
  | _ k ih =>
    intro hk
    cases hL : L.getD k false with
    | true => rfl
    | false =>
      exfalso
      have : k ∈ Region.ready .any l.toArray L := by
        rw [mem_ready]
        have hk2 : k < L.size := by omega
        refine ⟨by simp [hk2] at hL ⊢; exact hL, l[k], by simp [hk], fun e he hb => ?_⟩
        have := statB.back hst (List.getElem?_eq_getElem hk) he hb
        exact ih e.on this (by omega)
      rw [h] at this; cases this
theorem DInv.any {E0 : Env} {w0 : World} {K : St → Prop} {Q : Exit → Act → World → Prop} (hst : statB l = true) (hqs : qs.map (·.1) = l) (hlog : s.log = []) (hlo : lo ≤ s.nx) (good : ∀ (i : Nat) q, qs[i]? = some q → Good P N l.toArray (at3 s qs i) q)
    (hdyn : dynB l (at3 s qs qs.length).log = true) (hK : K ⟨(at3 s qs qs.length).nx, (at3 s qs qs.length).fr, (at3 s qs qs.length).m, []⟩)
    (hQ : ∀ E' s' a' w', K s' → SRep N lo E' s' a' w' → Step lo E0 s.m w0 E' s'.m w' → Q .normal a' w') :
    ∀ (f : Nat) (L : Array Bool) (E : Env) (a : Act) (w : World), L.toList.count false ≤ f → DInv N lo l s qs E0 w0 L E a w → wpAny P .any l.toArray Q f L a w := by
  have hlen : qs.length = l.length := by rw [← hqs]; simp
  have fin : ∀ (L : Array Bool) (E : Env) (a : Act) (w : World), DInv N lo l s qs E0 w0 L E a w → Region.ready .any l.toArray L = [] → Q .normal a w := by
    intro L E a w h hr
    have hall := all_up hst h.size hr
    have hf : ∀ t, look (frL qs 0 (fun k => L.getD k false) s.fr) t = look (at3 s qs qs.length).fr t := by
      intro t
      rw [frL_congr (L' := fun k => decide (k < qs.length)) qs 0 s.fr s.fr rfl ?_, frL_pre qs 0 qs.length s]
      · rfl
      · intro k p hp _
        have hk := (List.getElem?_eq_some_iff.1 hp).1
        rw [Nat.zero_add, hall k (by omega)]; simp [hk]
    have hm : ∀ n, mfind (memL qs 0 (fun k => L.getD k false) s.m) n = mfind (at3 s qs qs.length).m n := by
      intro n
      rw [memL_congr (L' := fun k => decide (k < qs.length)) qs 0 s.m s.m rfl ?_, memL_pre qs 0 qs.length s]
      · rfl
      · intro k p hp _
        have hk := (List.getElem?_eq_some_iff.1 hp).1
        rw [Nat.zero_add, hall k (by omega)]; simp [hk]
    have hless : ∀ n b, mfind (at3 s qs qs.length).m n = some b → mfind (memL qs 0 (fun k => L.getD k false) s.m) n = some b := fun n b hb => (hm n).trans hb
    refine hQ E _ a w hK ⟨?_, h.asize, h.defers, fun t v hv => h.fr t v ((hf t).trans hv), h.rep.less hless, h.fresh2⟩ ⟨h.step.agree, h.step.kept.os, h.step.kept.tape, h.step.kept.output, h.step.kept.size, fun x hx ho => ⟨(h.step.kept.keep x hx ho).1, fun h2 => (h.step.kept.keep x hx ho).2 (h2.less hless)⟩⟩
    have := at3_mono good (Nat.zero_le qs.length) (Nat.le_refl _)
    simp only [at3, List.take_zero, List.foldl_nil] at this
    exact Nat.le_trans hlo this
  intro f
  induction f with
  | zero =>
    intro L E a w hc h
    have hr : Region.ready .any l.toArray L = [] := by
      cases hr : Region.ready .any l.toArray L with
      | nil => rfl
      | cons i rs =>
        exfalso
        have hi : i ∈ Region.ready .any l.toArray L := by rw [hr]; simp
        obtain ⟨hup, o, ho, _⟩ := mem_ready.1 hi
        have hil : i < L.size := by rw [h.size]; have := (Array.getElem?_eq_some_iff.1 ho).1; simpa using this
        have : false ∈ L.toList := by
          simp [hil] at hup
          rw [← hup]; simp
        have := List.count_pos_iff.2 this
        omega
    exact ⟨hr, fin L E a w h hr⟩
  | succ f ih =>
    intro L E a w hc h
    refine ⟨fin L E a w h, fun i hi => ?_⟩
    refine h.op hst hqs hlog hlo good hdyn hi fun E' a' w' h' => ih _ E' a' w' ?_ h'
    obtain ⟨hup, o, ho, _⟩ := mem_ready.1 hi
    have hil : i < L.size := by rw [h.size]; have := (Array.getElem?_eq_some_iff.1 ho).1; simpa using this
    have hLi : L.toList[i]'(by simpa using hil) = false := by simp [hil] at hup; simpa using hup
    rw [Array.toList_setIfInBounds, List.count_set (by simpa using hil)]
    have hpos : 0 < L.toList.count false := List.count_pos_iff.2 (by rw [← hLi]; exact List.getElem_mem _)
    rw [hLi]
    simp only [beq_self_eq_true, if_true, Bool.true_eq_false, show ((true == false) = true) = False by simp, if_false, Nat.add_zero]
    omega
theorem Sp.regionD {id : Nat} {K : Exit → St → Prop} {nx : Nat} {fr : Fr} {mem : Mem} {lg : List Foot} (hm : P.follows .mixedOrders = true) (hst : statB l = true) (h : SpL P N lo l.toArray true l ⟨nx, fr, mem, []⟩ (fun s' => K .normal s')) :
    Sp P N lo (.region id l.toArray true) ⟨nx, fr, mem, lg⟩ K := by
  refine ⟨fun E a w hs Q hQ => ?_⟩
  obtain ⟨qs, hqs, good, hdyn, hK⟩ := h.told
  refine wp_region_any hm ?_
  have hlen : qs.length = l.length := by rw [← hqs]; simp
  have hrl : ∀ k, (Array.replicate l.toArray.size false).getD k false = false := by intro k; simp [Array.getElem?_replicate]; split <;> rfl
  have hf : ∀ t, look (frL qs 0 (fun k => (Array.replicate l.toArray.size false).getD k false) fr) t = look fr t := by
    intro t
    rw [frL_congr (L' := fun k => decide (k < 0)) qs 0 fr fr rfl (fun k p hp _ => by rw [hrl]; simp)]
    have := frL_pre qs 0 0 ⟨nx, fr, mem, []⟩
    simp at this
    simp only [Nat.not_lt_zero, decide_false]
    rw [this]
  have hm' : ∀ n, mfind (memL qs 0 (fun k => (Array.replicate l.toArray.size false).getD k false) mem) n = mfind mem n := by
    intro n
    rw [memL_congr (L' := fun k => decide (k < 0)) qs 0 mem mem rfl (fun k p hp _ => by rw [hrl]; simp)]
    have := memL_pre qs 0 0 ⟨nx, fr, mem, []⟩
    simp at this
    simp only [Nat.not_lt_zero, decide_false]
    rw [this]
  have hless : ∀ n b, mfind (memL qs 0 (fun k => (Array.replicate l.toArray.size false).getD k false) mem) n = some b → mfind mem n = some b := fun n b hb => (hm' n).symm.trans hb
  refine DInv.any (P := P) (s := ⟨nx, fr, mem, []⟩) (E0 := E) (w0 := w) hst hqs rfl hs.low good (by simpa using hdyn) hK (fun E' s' a' w' hk hs' hst' => hQ _ E' s' a' w' hk hs' hst') l.toArray.size _ E a _ ?_ ?_
  · simp [List.count_replicate]
  · refine ⟨by simp, fun i o e hi => ?_, hs.size, hs.defers, fun t v hv => hs.fr t v ((hf t).symm.trans hv), (hs.rep.drew).less hless, fun k q hq _ n hn => ?_, fun n h1 h2 => ?_, ⟨fun _ _ => rfl, rfl, rfl, rfl, Nat.le_refl _, fun x hx ho => ⟨rfl, fun h2 => ho (h2.less hless)⟩⟩⟩
    · dsimp only at hi; rw [hrl] at hi; cases hi
    · have g := (good k q hq).new n hn
      have := at3_mono good (Nat.zero_le k) (by have := (List.getElem?_eq_some_iff.1 hq).1; omega)
      simp only [at3, List.take_zero, List.foldl_nil] at this
      have g1 := g.1
      exact hs.fresh n (Nat.le_trans this g1) g.2.2
    · have := at3_mono good (Nat.zero_le qs.length) (Nat.le_refl _)
      simp only [at3, List.take_zero, List.foldl_nil] at this
      exact hs.fresh n (Nat.le_trans this h1) h2
end
class Mix (P : Program) : Prop where
  mix : P.follows .mixedOrders = true
theorem C.regionD {P : Program} [Mix P] {N lo id : Nat} {l : List Oper} {K : Exit → St → Prop} {nx : Nat} {fr : Fr} {mem : Mem} {lg : List Foot} (hst : statB l = true) (h : SpL P N lo l.toArray true l ⟨nx, fr, mem, []⟩ (fun s' => K .normal s')) :
    Sp P N lo (.region id l.toArray true) ⟨nx, fr, mem, lg⟩ K := Sp.regionD Mix.mix hst h
end Go.Proofs.YtbfakdpnefhgkaaDoor.Sl
