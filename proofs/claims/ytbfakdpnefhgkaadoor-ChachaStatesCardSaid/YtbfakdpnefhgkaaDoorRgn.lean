/-
  A region that draws its order, walked in one chosen order: what reads may be taken at once where nothing that can come before it disturbs what it reads. Plain lemmas, over any program.
-/
import Derived.WalkKit
import Derived.Orders
namespace Go.Proofs.YtbfakdpnefhgkaaDoor.Rgn
open Go
section
variable {P : Program} {ops : Array Oper} {Q : Exit → Act → World → Prop}

/-- Nothing that has come up waits for number i. -/
def NoneWaits (ops : Array Oper) (L : Array Bool) (i : Nat) : Prop :=
  ∀ j oj, ops[j]? = some oj → L.getD j false = true → ∀ e ∈ oj.after, Region.binds .any e = true → e.on ≠ i
def noneWaitsB (ops : Array Oper) (L : Array Bool) (i : Nat) : Bool :=
  (List.range ops.size).all fun j => !L.getD j false || match ops[j]? with
    | some oj => oj.after.all fun e => !Region.binds .any e || e.on != i
    | none => true
theorem noneWaits_of_B {L : Array Bool} {i : Nat} (h : noneWaitsB ops L i = true) : NoneWaits ops L i := by
  intro j oj hj hl e he hb
  have hlt : j < ops.size := (Array.getElem?_eq_some_iff.1 hj).1
  have h1 := List.all_eq_true.1 h j (List.mem_range.2 hlt)
  simp only [hl, hj, Bool.not_true, Bool.false_or] at h1
  have h2 := Array.all_eq_true_iff_forall_mem.1 h1 e he
  simpa [hb] using h2
/-- Number d waits for number i by an edge of its own. -/
def waitsB (ops : Array Oper) (d i : Nat) : Bool :=
  match ops[d]? with
  | some o => o.after.any fun e => Region.binds .any e && e.on == i
  | none => false
theorem NoneWaits.not_up {L : Array Bool} {i d : Nat} (h : NoneWaits ops L i) (hd : waitsB ops d i = true) : L.getD d false = false := by
  unfold waitsB at hd
  cases ho : ops[d]? with
  | none => rw [ho] at hd; cases hd
  | some o =>
    rw [ho] at hd
    obtain ⟨e, he, hb⟩ := Array.any_eq_true'.1 hd
    simp only [Bool.and_eq_true, beq_iff_eq] at hb
    cases hl : L.getD d false
    · rfl
    · exact absurd hb.2 (h d o ho hl e he hb.1)

/-- What an operation's run comes to is this value, and the world as it was. -/
def Comes1 (P : Program) (v : Value) (w : World) : Result Next → Prop
  | .ok (.value u) w' => u = v ∧ w' = w
  | .ok .skip w' => undef = v ∧ w' = w
  | .ok (.enter f args) w' => Calls P f args w' fun e w'' => e = .returned v ∧ w'' = w
  | .ok (.row r args) w' => Rows P r args w' fun u w'' => u = v ∧ w'' = w
  | _ => False
theorem Comes1.upon {o : Oper} {a : Act} {w : World} {v : Value} {r : Result Next} {K : Act → World → Prop} (h : Comes1 P v w r) (hK : K (a.put o.dst v) w) : o.upon P a K Q r := by
  cases r with
  | ok n w' =>
    cases n <;> simp only [Comes1] at h <;> simp only [Oper.upon]
    case value u => obtain ⟨rfl, rfl⟩ := h; exact hK
    case skip => obtain ⟨rfl, rfl⟩ := h; exact hK
    case enter f args => exact Calls.mono h fun e w'' he => by obtain ⟨rfl, rfl⟩ := he; exact hK
    case row r args => exact Rows.mono h fun u w'' he => by obtain ⟨rfl, rfl⟩ := he; exact hK
  | halt x w' => exact h.elim

/-- In state a, in every world that meets S, operation i leaves v and does nothing else. -/
def Reads (P : Program) (ops : Array Oper) (S : Array Bool → World → Prop) (i : Nat) (o : Oper) (v : Value) (a : Act) : Prop :=
  (Region.wanted o (yielded ops a.tmps) = true ∧ ∀ L w, S L w → NoneWaits ops L i → Comes1 P v w ((execOp a.eval o).run P w)) ∨
  (Region.wanted o (yielded ops a.tmps) = false ∧ undef = v)
theorem Reads.of_same {S : Array Bool → World → Prop} {i : Nat} {o : Oper} {v : Value} {a a' : Act} (hy : Reads P ops S i o v a) (he : execOp a'.eval o = execOp a.eval o)
    (hw : Region.wanted o (yielded ops a'.tmps) = Region.wanted o (yielded ops a.tmps)) : Reads P ops S i o v a' := by
  unfold Reads at *
  rw [he, hw]
  exact hy
theorem Reads.wpOp {S : Array Bool → World → Prop} {i : Nat} {o : Oper} {v : Value} {a : Act} (hi : ops[i]? = some o) (hy : Reads P ops S i o v a)
    {L : Array Bool} {K : Act → World → Prop} {w : World} (hS : S L w) (hn : NoneWaits ops L i) (h : K (a.put o.dst v) w) : wpOp P ops Q i K a w := by
  unfold Go.wpOp
  simp only [hi]
  rcases hy with ⟨hw, hv⟩ | ⟨hw, rfl⟩
  · simp only [hw, if_true, Oper.wp]; exact .inl ((hv L w hS hn).upon h)
  · simp only [hw, Bool.false_eq_true, if_false]; exact h

/-- One operation j, apart from oi: what holds of the state and hangs on nothing that j writes is carried along, and oi's value may lie there already. -/
theorem wpOp_carry {Y : Act → Prop} {j : Nat} {oi oj : Oper} {v : Value} (hj : ops[j]? = some oj) (hap : oi.apart ops oj = true)
    (keep : ∀ a, Y a → ∀ u, Y (a.put oj.dst u)) (keepD : ∀ a d, Y a → Y { a with defers := d :: a.defers })
    (hsj : ∀ cs b, oj.op ≠ .select cs b) (hQ : ∀ c a w, Q (.panic c) (a.put oi.dst v) w → Q (.panic c) a w) {K : Act → World → Prop} {a : Act} {w : World}
    (hy : Y a) (h : wpOp P ops Q j K (a.put oi.dst v) w) : wpOp P ops Q j (fun a' w' => Y a' ∧ K (a'.put oi.dst v) w') a w := by
  obtain ⟨h1, h2, _⟩ := Oper.apart_spec hap
  unfold wpOp at *
  simp only [hj] at *
  rw [wanted_put oj a oi.dst v h1] at h
  by_cases hw : Region.wanted oj (yielded ops a.tmps) = true
  · rw [if_pos hw] at h ⊢
    rcases h with h | ⟨hasks, hlets⟩
    · refine .inl ?_
      unfold Oper.wp at *
      rw [execOp_put oj hsj a oi.dst v h1] at h
      revert h
      generalize (execOp a.eval oj).run P w = r
      intro h
      have comm : ∀ (b : Act) (u : Value), (b.put oi.dst v).put oj.dst u = (b.put oj.dst u).put oi.dst v := fun b u => Act.put_comm b v u h2
      cases r with
      | ok n w' =>
        cases n <;> simp only [Oper.upon] at h ⊢
        case value u => exact ⟨keep a hy u, by rw [← comm]; exact h⟩
        case skip => exact ⟨keep a hy _, by rw [← comm]; exact h⟩
        case defer d => exact ⟨keep _ (keepD a d hy) _, by rw [← comm, ← Act.put_defers]; exact h⟩
        case enter f args =>
          refine Calls.mono h fun e w'' he => ?_
          cases e with
          | returned u => exact ⟨keep a hy u, by rw [← comm]; exact he⟩
          | panicked c => exact hQ _ _ _ he
          | outgrown => exact he
        case row row args => exact Rows.mono h fun u w'' he => ⟨keep a hy u, by rw [← comm]; exact he⟩
      | halt x w' =>
        cases x <;> simp only [Oper.upon] at h ⊢
        case panic u => exact hQ _ _ _ h
    · refine .inr ⟨?_, hlets⟩
      unfold Oper.asks at *
      rw [execOp_put oj hsj a oi.dst v h1] at hasks
      exact hasks
  · rw [if_neg hw] at h ⊢
    exact ⟨keep a hy _, by rw [← Act.put_comm a v undef h2]; exact h⟩

/-- Whatever order is picked from here on, S holding behind each operation. -/
def wpX (P : Program) (ops : Array Oper) (Q : Exit → Act → World → Prop) (S : Array Bool → World → Prop) : Nat → Array Bool → Act → World → Prop
  | 0, L, a, w => Region.ready .any ops L = [] ∧ Q .normal a w
  | f + 1, L, a, w => (Region.ready .any ops L = [] → Q .normal a w) ∧
    ∀ i ∈ Region.ready .any ops L, wpOp P ops Q i (fun a' w' => S (L.setIfInBounds i true) w' ∧ wpX P ops Q S f (L.setIfInBounds i true) a' w') a w
theorem wpAny_of_X {S : Array Bool → World → Prop} : ∀ (f : Nat) (L : Array Bool) (a : Act) (w : World), wpX P ops Q S f L a w → wpAny P .any ops Q f L a w
  | 0, _, _, _, h => h
  | f + 1, _, _, _, h => ⟨h.1, fun i hi => wpOp_mono (fun _ _ h' => wpAny_of_X f _ _ _ h'.2) (h.2 i hi)⟩

theorem not_waits_of_ready {L : Array Bool} {i j : Nat} {oj : Oper} (hoj : ops[j]? = some oj) (hj : j ∈ Region.ready .any ops L) (hi : L.getD i true = false) :
    ∀ e ∈ oj.after, Region.binds .any e = true → e.on ≠ i := by
  intro e he hb heq
  obtain ⟨_, o, ho, hall⟩ := mem_ready.1 hj
  have : o = oj := Option.some.inj (ho.symm.trans hoj)
  subst this
  have h1 := hall e he hb
  rw [heq] at h1
  rcases Nat.lt_or_ge i L.size with h' | h'
  · simp [h'] at hi h1; rw [hi] at h1; cases h1
  · simp [Array.getElem?_eq_none h'] at h1

theorem wpX_first {S : Array Bool → World → Prop} {i : Nat} {oi : Oper} {v : Value} (hi : ops[i]? = some oi) (hsel : Region.noSelect ops = true)
    (hQ : ∀ c a w, Q (.panic c) (a.put oi.dst v) w → Q (.panic c) a w) (hI : ∀ L w, S (L.setIfInBounds i true) w ↔ S L w) :
    ∀ (f : Nat) (L : Array Bool) (a : Act) (w : World),
      (∀ j oj, ops[j]? = some oj → j ≠ i → L.getD j true = false → (∀ e ∈ oj.after, Region.binds .any e = true → e.on ≠ i) → oi.apart ops oj = true) →
      i ∈ Region.ready .any ops L → NoneWaits ops L i → Reads P ops S i oi v a → S L w →
      wpX P ops Q S f (L.setIfInBounds i true) (a.put oi.dst v) w → wpX P ops Q S (f + 1) L a w := by
  intro f
  induction f with
  | zero =>
    intro L a w _ hr hn hy hS H
    refine ⟨fun h => (by rw [h] at hr; cases hr), fun j hj => ?_⟩
    by_cases hji : j = i
    · subst hji; exact hy.wpOp hi hS hn ⟨(hI _ _).2 hS, H⟩
    · have := ready_mono hj hji
      rw [H.1] at this
      cases this
  | succ f ih =>
    intro L a w hfree hr hn hy hS H
    refine ⟨fun h => (by rw [h] at hr; cases hr), fun j hj => ?_⟩
    by_cases hji : j = i
    · subst hji; exact hy.wpOp hi hS hn ⟨(hI _ _).2 hS, H⟩
    · have h1 := H.2 j (ready_mono hj hji)
      obtain ⟨hjun, oj, hoj, _⟩ := mem_ready.1 hj
      have hnot := not_waits_of_ready hoj hj (mem_ready.1 hr).1
      have hap := hfree j oj hoj hji hjun hnot
      obtain ⟨_, _, h3⟩ := Oper.apart_spec hap
      have h2 := wpOp_carry (Y := Reads P ops S i oi v) hoj hap
        (fun b hb u => hb.of_same (execOp_put oi (fun cs b => Region.noSelect_spec hsel i oi cs b hi) b oj.dst u h3) (wanted_put oi b oj.dst u h3))
        (fun b d hb => hb.of_same rfl rfl) (fun cs b => Region.noSelect_spec hsel j oj cs b hoj) hQ hy h1
      have hfree' : ∀ k ok, ops[k]? = some ok → k ≠ i → (L.setIfInBounds j true).getD k true = false →
          (∀ e ∈ ok.after, Region.binds .any e = true → e.on ≠ i) → oi.apart ops ok = true := fun k ok hk hki hun hno => by
        refine hfree k ok hk hki ?_ hno
        by_cases hjk : j = k
        · subst hjk; exact hjun
        · rw [getD_set_ne true hjk] at hun; exact hun
      have hn' : NoneWaits ops (L.setIfInBounds j true) i := by
        intro k ok hk hl e he hb
        by_cases hjk : j = k
        · subst hjk
          have : ok = oj := Option.some.inj (hk.symm.trans hoj)
          subst this
          exact hnot e he hb
        · rw [getD_set_ne false hjk] at hl
          exact hn k ok hk hl e he hb
      refine wpOp_mono (fun a' w' h4 => ?_) h2
      have hS' : S (L.setIfInBounds j true) w' := by
        have := h4.2.1
        rw [Array.setIfInBounds_comm _ _ (Ne.symm hji)] at this
        exact (hI _ _).1 this
      refine ⟨hS', ih (L.setIfInBounds j true) a' w' hfree' (ready_mono hr (Ne.symm hji)) hn' h4.1 hS' ?_⟩
      rw [Array.setIfInBounds_comm _ _ hji]
      exact h4.2.2

/-! ### One chosen order -/
/-- The post of a piece that only reads: it comes to this state, the world as it was. -/
def Only (a₁ : Act) (w₀ : World) : Exit → Act → World → Prop
  | .normal, a, w => a = a₁ ∧ w = w₀
  | _, _, _ => False
/-- Q at the normal end, and no other end. -/
def Norm (Q : Exit → Act → World → Prop) : Exit → Act → World → Prop
  | .normal, a, w => Q .normal a w
  | _, _, _ => False
theorem Norm.imp : ∀ (e : Exit) (a : Act) (w : World), Norm Q e a w → Q e a w := fun e _ _ h => by
  cases e <;> first | exact h | exact (h : False).elim

/-- The order is one of those that may come; what is no effect may be taken where it stands; an effect stands where nothing else may come. -/
def orderB (ops : Array Oper) (eff : List Nat) : List Nat → Array Bool → Bool
  | [], L => (Region.ready .any ops L).isEmpty
  | k :: ks, L =>
    (if eff.contains k then Region.ready .any ops L == [k]
     else (Region.ready .any ops L).contains k && Region.free .any ops L k && noneWaitsB ops L k && (match ops[k]? with | some o => o.dst.isSome | none => false)) &&
    orderB ops eff ks (L.setIfInBounds k true)

def wpO (P : Program) (ops : Array Oper) (Q : Exit → Act → World → Prop) (S : Array Bool → World → Prop) (eff : List Nat) : List Nat → Array Bool → Act → World → Prop
  | [], _, a, w => Q .normal a w
  | k :: ks, L, a, w =>
    if eff.contains k then wpOp P ops (Norm Q) k (fun a' w' => S (L.setIfInBounds k true) w' ∧ wpO P ops Q S eff ks (L.setIfInBounds k true) a' w') a w
    else ∃ a₁ : Act, (∀ L' w', S L' w' → NoneWaits ops L' k → wpOp P ops (fun _ _ _ => False) k (fun a' w'' => a' = a₁ ∧ a'.defers = a.defers ∧ w'' = w') a w') ∧
      wpO P ops Q S eff ks (L.setIfInBounds k true) a₁ w

theorem put_size (a : Act) (d : Option Tmp) (v : Value) : (a.put d v).tmps.size = a.tmps.size := by
  cases d <;> simp [Act.put]
theorem put_at (a : Act) (d : Tmp) (v : Value) (h : d < a.tmps.size) : (a.put (some d) v).tmps[d]? = some v := by simp [Act.put, h]
theorem not_lets : ¬ LetsOut (fun _ _ _ => False) := fun ⟨_, _, h⟩ => h

/-- From the walk of one reading operation to what it leaves. -/
theorem reads_of_wpOp {S : Array Bool → World → Prop} {k : Nat} {o : Oper} {a a₁ : Act} {d : Tmp} (hk : ops[k]? = some o) (hd : o.dst = some d) (hlt : d < a.tmps.size) {L₀ : Array Bool} {w₀ : World}
    (hS : S L₀ w₀) (hn : NoneWaits ops L₀ k)
    (h : ∀ L' w', S L' w' → NoneWaits ops L' k → wpOp P ops (fun _ _ _ => False) k (fun a' w'' => a' = a₁ ∧ a'.defers = a.defers ∧ w'' = w') a w') :
    ∃ v, a₁ = a.put o.dst v ∧ Reads P ops S k o v a := by
  by_cases hw : Region.wanted o (yielded ops a.tmps) = true
  · have key : ∀ L' w', S L' w' → NoneWaits ops L' k → o.upon P a (fun a' w'' => a' = a₁ ∧ a'.defers = a.defers ∧ w'' = w') (fun _ _ _ => False) ((execOp a.eval o).run P w') := by
      intro L' w' hS' hn'
      have h1 := h L' w' hS' hn'
      unfold wpOp at h1
      simp only [hk] at h1
      rw [if_pos hw] at h1
      exact h1.resolve_right fun x => not_lets x.2
    -- whatever value a run leaves, it is what lies in a₁'s slot
    have hval : ∀ v, a.put o.dst v = a₁ → a₁.tmps[d]? = some v := fun v e => by rw [← e, hd]; exact put_at a d v hlt
    have one : ∀ L' w', S L' w' → NoneWaits ops L' k → ∃ v, a.put o.dst v = a₁ ∧ Comes1 P v w' ((execOp a.eval o).run P w') := by
      intro L' w' hS' hn'
      have h1 := key L' w' hS' hn'
      revert h1
      generalize (execOp a.eval o).run P w' = r
      intro h1
      cases r with
      | ok n w1 =>
        cases n <;> simp only [Oper.upon] at h1
        case value u => exact ⟨u, h1.1, rfl, h1.2.2⟩
        case skip => exact ⟨undef, h1.1, rfl, h1.2.2⟩
        case defer d' =>
          exfalso
          have h2 := h1.2.1
          have h3 : ({ a with defers := d' :: a.defers }.put o.dst undef).defers = d' :: a.defers := by cases o.dst <;> rfl
          rw [h3] at h2
          have := congrArg List.length h2
          simp at this
        case enter f args =>
          obtain ⟨v, hv⟩ : ∃ v, a₁.tmps[d]? = some v := by
            obtain ⟨e, w2, fr, hR, _⟩ := h1 []
            cases e with
            | returned u => exact ⟨u, hval u hR.1⟩
            | panicked c => exact hR.elim
            | outgrown => exact (not_lets hR).elim
          refine ⟨v, ?_, Calls.mono h1 fun e w2 he => ?_⟩
          · obtain ⟨e, w2, fr, hR, _⟩ := h1 []
            cases e with
            | returned u =>
              have := (hval u hR.1).symm.trans hv
              injection this with this
              subst this
              exact hR.1
            | panicked c => exact hR.elim
            | outgrown => exact (not_lets hR).elim
          · cases e with
            | returned u =>
              have := (hval u he.1).symm.trans hv
              injection this with this
              subst this
              exact ⟨rfl, he.2.2⟩
            | panicked c => exact he.elim
            | outgrown => exact (not_lets he).elim
        case row row args =>
          obtain ⟨v, hv⟩ : ∃ v, a₁.tmps[d]? = some v ∧ a.put o.dst v = a₁ := by
            obtain ⟨u, w2, hR, _⟩ := h1 default []
            exact ⟨u, hval u hR.1, hR.1⟩
          refine ⟨v, hv.2, Rows.mono h1 fun u w2 he => ⟨?_, he.2.2⟩⟩
          have := (hval u he.1).symm.trans hv.1
          injection this
      | halt x w1 => cases x <;> exact h1.elim
    obtain ⟨v, hv, _⟩ := one L₀ w₀ hS hn
    refine ⟨v, hv.symm, .inl ⟨hw, fun L' w' hS' hn' => ?_⟩⟩
    obtain ⟨u, hu, hc⟩ := one L' w' hS' hn'
    have := (hval u hu).symm.trans (hval v hv)
    injection this with this
    subst this
    exact hc
  · refine ⟨undef, ?_, .inr ⟨by simpa using hw, rfl⟩⟩
    have h1 := h L₀ w₀ hS hn
    unfold wpOp at h1
    simp only [hk] at h1
    rw [if_neg hw] at h1
    exact h1.1.symm

theorem wpOp_size {k : Nat} {K : Act → World → Prop} {a : Act} {w : World} (h : wpOp P ops Q k K a w) : wpOp P ops Q k (fun a' w' => K a' w' ∧ a'.tmps.size = a.tmps.size) a w := by
  unfold wpOp at *
  cases ho : ops[k]? with
  | none => simp only [ho] at h ⊢; exact ⟨h, trivial⟩
  | some o =>
    simp only [ho] at h ⊢
    by_cases hw : Region.wanted o (yielded ops a.tmps) = true
    · rw [if_pos hw] at h ⊢
      refine h.imp (fun h => ?_) id
      unfold Oper.wp at *
      revert h
      generalize (execOp a.eval o).run P w = r
      intro h
      cases r with
      | ok n w' =>
        cases n <;> simp only [Oper.upon] at h ⊢
        case value u => exact ⟨h, put_size ..⟩
        case skip => exact ⟨h, put_size ..⟩
        case defer d => exact ⟨h, by rw [put_size]⟩
        case enter f args =>
          refine Calls.mono h fun e w'' he => ?_
          cases e with
          | returned u => exact ⟨he, put_size ..⟩
          | panicked c => exact he
          | outgrown => exact he
        case row row args => exact Rows.mono h fun u w'' he => ⟨he, put_size ..⟩
      | halt x w' => cases x <;> simp only [Oper.upon] at h ⊢ <;> exact h
    · rw [if_neg hw] at h ⊢
      exact ⟨h, put_size ..⟩

def dstsB (ops : Array Oper) (n : Nat) : Bool := ops.all fun o => match o.dst with | some d => decide (d < n) | none => true
theorem dst_lt {n k d : Nat} {o : Oper} (h : dstsB ops n = true) (hk : ops[k]? = some o) (hd : o.dst = some d) : d < n := by
  have := Array.all_eq_true_iff_forall_mem.1 h o (Array.mem_of_getElem? hk)
  simpa [hd] using this

theorem wpX_of_order {S : Array Bool → World → Prop} {eff : List Nat} {n : Nat} (hsel : Region.noSelect ops = true) (hd : dstsB ops n = true)
    (hI : ∀ k, eff.contains k = false → ∀ L w, S (L.setIfInBounds k true) w ↔ S L w) :
    ∀ (order : List Nat) (f : Nat) (L : Array Bool) (a : Act) (w : World), order.length ≤ f → a.tmps.size = n → orderB ops eff order L = true → S L w →
      wpO P ops Q S eff order L a w → wpX P ops (Norm Q) S f L a w
  | [], f, L, a, w, _, _, hB, _, h => by
    have hr : Region.ready .any ops L = [] := by simpa [orderB] using hB
    cases f with
    | zero => exact ⟨hr, h⟩
    | succ f => exact ⟨fun _ => h, by rw [hr]; simp⟩
  | k :: ks, 0, L, a, w, hl, _, _, _, _ => by simp at hl
  | k :: ks, f + 1, L, a, w, hl, hn, hB, hS, h => by
    simp only [orderB, Bool.and_eq_true] at hB
    obtain ⟨hk, hB⟩ := hB
    have hl' : ks.length ≤ f := by simpa using hl
    unfold wpO at h
    by_cases he : eff.contains k = true
    · rw [if_pos he] at h hk
      have hr : Region.ready .any ops L = [k] := by simpa using hk
      refine ⟨fun h0 => (by rw [hr] at h0; cases h0), fun i hi => ?_⟩
      rw [hr] at hi
      obtain rfl : i = k := by simpa using hi
      exact wpOp_mono (fun a' w' h' => ⟨h'.1.1, wpX_of_order hsel hd hI ks f _ a' w' hl' (h'.2.trans hn) hB h'.1.1 h'.1.2⟩) (wpOp_size h)
    · rw [if_neg he] at h hk
      simp only [Bool.and_eq_true] at hk
      obtain ⟨⟨⟨hr, hf⟩, hw⟩, hdst⟩ := hk
      obtain ⟨a₁, h1, h2⟩ := h
      cases ho : ops[k]? with
      | none => rw [ho] at hdst; cases hdst
      | some o =>
        rw [ho] at hdst
        obtain ⟨d, hdd⟩ := Option.isSome_iff_exists.1 hdst
        have hlt : d < a.tmps.size := by rw [hn]; exact dst_lt hd ho hdd
        have hnw := noneWaits_of_B hw
        obtain ⟨v, rfl, hy⟩ := reads_of_wpOp ho hdd hlt hS hnw h1
        have he' : eff.contains k = false := by simpa using he
        exact wpX_first ho hsel (fun _ _ _ h => h.elim) (hI k he') f L a w (Region.free_spec ho hf) (by simpa using hr) hnw hy hS
          (wpX_of_order hsel hd hI ks f _ _ w hl' ((put_size ..).trans hn) hB ((hI k he' L w).2 hS) h2)

/-- THE LAW: a region that draws its order, walked in the order 'order'; 'eff': those of its operations that do more than read. S: what holds of the world, told by what has come up. -/
theorem wp_region_order {id : Nat} {a : Act} {w : World} (S : Array Bool → World → Prop) (eff order : List Nat) (hm : P.follows .mixedOrders = true)
    (hB : (Region.noSelect ops && dstsB ops a.tmps.size && decide (order.length ≤ ops.size) && orderB ops eff order (Array.replicate ops.size false)) = true)
    (hI : ∀ k, eff.contains k = false → ∀ L w, S (L.setIfInBounds k true) w ↔ S L w) (hS : S (Array.replicate ops.size false) { w with drawn := w.drawn + 1 })
    (h : wpO P ops Q S eff order (Array.replicate ops.size false) a { w with drawn := w.drawn + 1 }) : (Code.region id ops true).wp P Q a w := by
  simp only [Bool.and_eq_true, decide_eq_true_eq] at hB
  obtain ⟨⟨⟨h1, h2⟩, h3⟩, h4⟩ := hB
  exact Code.wp_mono Norm.imp (wp_region_any hm (wpAny_of_X _ _ _ _ (wpX_of_order h1 h2 hI order _ _ a _ h3 rfl h4 hS h)))

/-! ### Its steps, for a walk by the kit's own tactics -/
def OnlyE (a₁ : Act) (ds : List Deferred) (w₀ : World) : Exit → Act → World → Prop
  | .normal, a, w => a = a₁ ∧ a.defers = ds ∧ w = w₀
  | _, _, _ => False
theorem wpO_nil {S : Array Bool → World → Prop} {eff : List Nat} {L : Array Bool} {a : Act} {w : World} (h : Q .normal a w) : wpO P ops Q S eff [] L a w := h
theorem wpOp_of_list {o : Oper} {k : Nat} {a : Act} {w : World} {Q' : Exit → Act → World → Prop} {K : Act → World → Prop} {Q'' : Exit → Act → World → Prop} (hk : ops[k]? = some o) (hK : ∀ a w, Q' .normal a w → K a w)
    (hQ : ∀ c a w, Q' (.panic c) a w → Q'' (.panic c) a w) (hL : LetsOut Q' → LetsOut Q'') (h : wpList P ops Q' [o] a w) : wpOp P ops Q'' k K a w := by
  unfold wpOp
  simp only [hk]
  unfold wpList at h
  split at h
  · rename_i hw
    rw [if_pos hw]
    refine h.imp (fun h => ?_) (fun h => ⟨h.1, hL h.2⟩)
    unfold Oper.wp at *
    revert h
    generalize (execOp a.eval o).run P w = r
    intro h
    cases r with
    | ok n w' =>
      cases n <;> simp only [Oper.upon] at h ⊢
      case value u => exact hK _ _ h
      case skip => exact hK _ _ h
      case defer d => exact hK _ _ h
      case enter f args =>
        refine Calls.mono h fun e w'' he => ?_
        cases e with
        | returned u => exact hK _ _ he
        | panicked c => exact hQ _ _ _ he
        | outgrown => exact hL he
      case row row args => exact Rows.mono h fun u w'' he => hK _ _ he
    | halt x w' =>
      cases x <;> simp only [Oper.upon] at h ⊢
      case panic u => exact hQ _ _ _ h
  · rename_i hw
    rw [if_neg hw]
    exact hK _ _ h
/-- An operation that reads. -/
theorem wpO_rd {S : Array Bool → World → Prop} {eff : List Nat} {k : Nat} {ks : List Nat} {o : Oper} {L : Array Bool} {a a₁ : Act} {w : World} (he : eff.contains k = false) (hk : ops[k]? = some o)
    (h1 : ∀ L' w', S L' w' → NoneWaits ops L' k → wpList P ops (OnlyE a₁ a.defers w') [o] a w') (h : wpO P ops Q S eff ks (L.setIfInBounds k true) a₁ w) : wpO P ops Q S eff (k :: ks) L a w := by
  unfold wpO
  rw [if_neg (by rw [he]; simp)]
  exact ⟨a₁, fun L' w' hS hn => wpOp_of_list hk (fun _ _ h => h) (fun _ _ _ h => h) (fun ⟨_, _, h⟩ => h.elim) (h1 L' w' hS hn), h⟩
/-- One that does more. -/
def Then (K : Act → World → Prop) : Exit → Act → World → Prop
  | .normal, a, w => K a w
  | _, _, _ => False
theorem wpO_eff {S : Array Bool → World → Prop} {eff : List Nat} {k : Nat} {ks : List Nat} {o : Oper} {L : Array Bool} {a : Act} {w : World} (he : eff.contains k = true) (hk : ops[k]? = some o)
    (h : ∀ K : Act → World → Prop, (∀ a' w', (S (L.setIfInBounds k true) w' ∧ wpO P ops Q S eff ks (L.setIfInBounds k true) a' w') → K a' w') → wpList P ops (Then K) [o] a w) : wpO P ops Q S eff (k :: ks) L a w := by
  unfold wpO
  rw [if_pos he]
  exact wpOp_of_list hk (fun _ _ h => h) (fun _ _ _ h => h.elim) (fun ⟨_, _, h⟩ => h.elim) (h (fun a' w' => S (L.setIfInBounds k true) w' ∧ wpO P ops Q S eff ks (L.setIfInBounds k true) a' w') fun _ _ h1 => h1)
/-- The world forgotten, but for S. -/
def wpS (P : Program) (ops : Array Oper) (Q : Exit → Act → World → Prop) (S : Array Bool → World → Prop) (eff : List Nat) (order : List Nat) (L : Array Bool) (a : Act) : Prop :=
  ∀ w, S L w → wpO P ops Q S eff order L a w
theorem wp_region_S {id : Nat} {a : Act} {w : World} (S : Array Bool → World → Prop) (eff order : List Nat) (hm : P.follows .mixedOrders = true)
    (hB : (Region.noSelect ops && dstsB ops a.tmps.size && decide (order.length ≤ ops.size) && orderB ops eff order (Array.replicate ops.size false)) = true)
    (hI : ∀ k, eff.contains k = false → ∀ L w, S (L.setIfInBounds k true) w ↔ S L w) (hS : S (Array.replicate ops.size false) { w with drawn := w.drawn + 1 })
    (h : wpS P ops Q S eff order (Array.replicate ops.size false) a) : (Code.region id ops true).wp P Q a w :=
  wp_region_order S eff order hm hB hI hS (h _ hS)
theorem wpS_rd {S : Array Bool → World → Prop} {eff : List Nat} {k : Nat} {ks : List Nat} {o : Oper} {L : Array Bool} {a a₁ : Act} (hI : ∀ k, eff.contains k = false → ∀ L w, S (L.setIfInBounds k true) w ↔ S L w)
    (he : eff.contains k = false) (hk : ops[k]? = some o)
    (h1 : ∀ L' w', S L' w' → NoneWaits ops L' k → wpList P ops (OnlyE a₁ a.defers w') [o] a w') (h : wpS P ops Q S eff ks (L.setIfInBounds k true) a₁) : wpS P ops Q S eff (k :: ks) L a :=
  fun w hS => wpO_rd he hk h1 (h w ((hI k he L w).2 hS))
theorem wpS_eff {S : Array Bool → World → Prop} {eff : List Nat} {k : Nat} {ks : List Nat} {o : Oper} {L : Array Bool} {a : Act} (he : eff.contains k = true) (hk : ops[k]? = some o)
    (h : ∀ w, S L w → ∀ K : Act → World → Prop, (∀ a' w', (S (L.setIfInBounds k true) w' ∧ wpS P ops Q S eff ks (L.setIfInBounds k true) a') → K a' w') → wpList P ops (Then K) [o] a w) : wpS P ops Q S eff (k :: ks) L a :=
  fun w hS => wpO_eff he hk fun K hK => h w hS K fun a' w' h1 => hK a' w' ⟨h1.1, h1.2 w' h1.1⟩
theorem wpS_nil {S : Array Bool → World → Prop} {eff : List Nat} {L : Array Bool} {a : Act} (h : ∀ w, S L w → Q .normal a w) : wpS P ops Q S eff [] L a := h
end
end Go.Proofs.YtbfakdpnefhgkaaDoor.Rgn
