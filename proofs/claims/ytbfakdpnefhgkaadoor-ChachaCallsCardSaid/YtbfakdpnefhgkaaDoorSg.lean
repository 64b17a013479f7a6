/-
  Calls and ends of functions, slices, as they are applied. Plain lemmas, over any program.
-/
import Derived.Test.YtbfakdpnefhgkaaDoorSf
set_option linter.unusedSimpArgs false
set_option linter.unusedVariables false
namespace Go.Proofs.YtbfakdpnefhgkaaDoor.Sl
open Go Go.RowKit Bv Mem
/-! ### The end -/
section
variable {P : Program} {s : St} {K : Value → Mem → Prop} {v w x y : Value}
def noTuple : Value → Bool
  | .tuple _ => false
  | _ => true
theorem noTuple.out {v : Value} (h : noTuple v = true) : ∀ E u, R3 E v u → R2 E v u := by
  intro E u hr
  cases v with
  | tuple cs => cases h
  | _ => exact hr
def Less (m' m : Mem) : Prop := ∀ n b, mfind m' n = some b → mfind m n = some b
theorem Less.nil (m : Mem) : Less [] m := fun n b h => by cases h
theorem Less.refl (m : Mem) : Less m m := fun n b h => h
theorem Less.cons {m' m : Mem} {n : Nat} {b : Option ABlk} (h : mfind m n = b) (h' : Less m' m) : Less ((n, b) :: m') m := by
  intro k b' hk
  rw [mfind_cons] at hk
  by_cases e : n = k
  · subst e; rw [if_pos rfl] at hk; rw [h]; exact hk
  · rw [if_neg e] at hk; exact h' k b' hk
theorem allNT {vs : List Value} (h : vs.all noTuple = true) : ∀ v, v ∈ vs → ∀ E u, R3 E v u → R2 E v u :=
  fun v hv => noTuple.out (by rw [List.all_eq_true] at h; exact h v hv)
theorem retK.t1 {t : Tmp} (m' : Mem) (h : look s.fr t = some v) (h2 : [v].all noTuple = true) (hm : Less m' s.m) (hk : K v m') : retK P [.tmp t] K .ret s :=
  ⟨[v], m', ⟨h, trivial⟩, allNT h2, hm, hk⟩
theorem retK.t2 {t t' : Tmp} (m' : Mem) (h : look s.fr t = some v) (h' : look s.fr t' = some w) (h2 : [v, w].all noTuple = true) (hm : Less m' s.m) (hk : K (.tuple #[v, w]) m') : retK P [.tmp t, .tmp t'] K .ret s :=
  ⟨[v, w], m', ⟨h, h', trivial⟩, allNT h2, hm, hk⟩
theorem retK.t4 {t t' t2 t3 : Tmp} (m' : Mem) (h : look s.fr t = some v) (h' : look s.fr t' = some w) (h2 : look s.fr t2 = some x) (h3 : look s.fr t3 = some y) (e : [v, w, x, y].all noTuple = true) (hm : Less m' s.m) (hk : K (.tuple #[v, w, x, y]) m') : retK P [.tmp t, .tmp t', .tmp t2, .tmp t3] K .ret s :=
  ⟨[v, w, x, y], m', ⟨h, h', h2, h3, trivial⟩, allNT e, hm, hk⟩
theorem retK.t0 (m' : Mem) (hm : Less m' s.m) (hk : K (.tuple #[]) m') : retK P [] K .ret s :=
  ⟨[], m', trivial, (fun z hz => by cases hz), hm, hk⟩
theorem retK.cA {t ty : TypeId} {n sz : Nat} {C : Array Value} {opn rw : Bool} [TI P ty true sz] (m' : Mem) (hx : look s.fr t = some (.pointer (some ⟨n, 0, none⟩))) (hm : mfind s.m n = some (.cells C opn rw)) (hs : C.size = sz) (hl : Less m' s.m) (hk : K (.agg C) m') : retK P [.cell t ty] K .ret s := by
  refine ⟨[.agg C], m', ⟨?_, trivial⟩, allNT rfl, hl, hk⟩
  have := RV.cellA (P := P) hx hm (TI.ag (P := P) (t := ty) (sz := sz)) (TI.sz (P := P) (t := ty) (agg := true)) (by omega)
  rwa [show C.extract 0 (0 + sz) = C by rw [Nat.zero_add, ← hs]; simp] at this
theorem retK.normal {rs : List ResultVar} (h : retK P rs K .ret s) : retK P rs K .normal s := h
end
/-! ### Values without names -/
class Pl1 (v : Value) : Prop where
  rn : ∀ f, rn3 f v = v
  nm : ∀ S, N3 S v
  nt : noTuple v = true
class Pl (v : Value) : Prop where
  rn : ∀ f, rn3 f v = v
  nm : ∀ S, N3 S v
instance (k : IntKind) (n : Int) : Pl1 (.int k n) := ⟨fun _ => rfl, fun _ => trivial, rfl⟩
instance (b : Bool) : Pl1 (.bool b) := ⟨fun _ => rfl, fun _ => trivial, rfl⟩
instance (b : ByteArray) : Pl1 (.string b) := ⟨fun _ => rfl, fun _ => trivial, rfl⟩
instance : Pl1 (.pointer none) := ⟨fun _ => rfl, fun _ => trivial, rfl⟩
instance (a b : Nat) : Pl1 (.slice none a b) := ⟨fun _ => rfl, fun _ => trivial, rfl⟩
instance : Pl1 (.map none) := ⟨fun _ => rfl, fun _ => trivial, rfl⟩
instance : Pl1 .nilFunc := ⟨fun _ => rfl, fun _ => trivial, rfl⟩
instance : Pl1 .nilIface := ⟨fun _ => rfl, fun _ => trivial, rfl⟩
instance (k : IntKind) {n : Nat} (l : List (BitVec n)) : Pl1 (.agg (arr k l)) := ⟨fun f => rn_arr f k l, fun S => N3_arr S k l, rfl⟩
instance (v : Value) [h : Pl1 v] : Pl v := ⟨h.rn, h.nm⟩
class PlL (vs : List Value) : Prop where
  all : ∀ v, v ∈ vs → Pl1 v
instance : PlL [] := ⟨fun v h => by cases h⟩
instance (v : Value) (vs : List Value) [h1 : Pl1 v] [h2 : PlL vs] : PlL (v :: vs) := ⟨fun w h => by
  rcases List.mem_cons.1 h with rfl | h
  · exact h1
  · exact h2.all w h⟩
theorem rn2_of_rn3 {f : Nm} {v : Value} (h : noTuple v = true) (hr : rn3 f v = v) : rn2 f v = v := by
  cases v with
  | tuple cs => cases h
  | _ => exact hr
theorem N2_of_N3 {S : Nat → Prop} {v : Value} (h : noTuple v = true) (hr : N3 S v) : N2 S v := by
  cases v with
  | tuple cs => cases h
  | _ => exact hr
instance (vs : List Value) [h : PlL vs] : Pl (.tuple vs.toArray) := by
  refine ⟨fun f => ?_, fun S i v hv => ?_⟩
  · show Value.tuple _ = _
    congr 1
    rw [List.map_toArray]
    congr 1
    exact (List.map_congr_left fun v hv => rn2_of_rn3 (h.all v hv).nt ((h.all v hv).rn f)).trans (List.map_id' vs)
  · have hm : v ∈ vs := by simpa using Array.mem_of_getElem? hv
    exact N2_of_N3 (h.all v hm).nt ((h.all v hm).nm S)
/-! ### Calls -/
section
variable {P : Program} {N lo : Nat} {nx : Nat} {fr : Fr} {mem : Mem} {K : St → Prop} {ops : Array Oper} {rest : List Oper} {dr : Bool} {lg : List Foot} {ty : TypeId} {pos : String} {af : Array Edge} {v : Value}
theorem sg_nil (n : Nat) (p : Nat × Nat) (h : sg [] n = some p) : GB ≤ n ∧ p = (n, 0) := by
  unfold sg at h
  cases hb : Nat.ble GB n with
  | true => rw [hb] at h; simp at h; exact ⟨Nat.le_of_ble_eq_true hb, h.symm⟩
  | false => rw [hb] at h; simp at h
/-- A call by contract: what is handed on, what comes back, told in full. -/
theorem L.call {d : Option Tmp} {f cn : Nat} {fn : Func} [FI P f fn] {args : List Value} {m m0 m1 m0' : Mem} {V V' : Value} {xs : List Operand} {ts : Array TypeId} (l nw : List (Nat × Nat)) (new : List Nat) (nx' : Nat)
    (hc : Fc P f cn args m (fun v' m' => v' = V ∧ m' = m1)) (hl : l.length = cn) (hx : xs.map (aeval fr) = args.map fun v => some (rn3 (sg l) v)) (hh : Hand l m m0) (hlow : ∀ p, p ∈ l → p.1 < GB ∧ p.1 ∉ new)
    (hnw : nw.map (·.2) = new) (hcn : ∀ n c, look nw n = some c → cn ≤ n ∧ n < GB) (hnd : new.Nodup) (hnew : ∀ n, n ∈ new → nx ≤ n ∧ n < nx' ∧ n < GB) (hnx : nx ≤ nx') (hsub : Sub m0 mem)
    (hV : V' = rn3 (sgN l nw) V) (hN : N3 (fun n => sgN l nw n ≠ none) V) (ht : Take l nw m0 m1 m0') (hd : dstOk d N = true)
    (h : SpL P N lo ops dr rest ⟨nx', putF fr d V', m0' ++ mem, ⟨keys m0, keys m0'⟩ :: lg⟩ K) : SpL P N lo ops dr (⟨d, .call { callee := .value (.func f), args := xs.toArray, argTypes := ts }, ty, pos, af, none⟩ :: rest) ⟨nx, fr, mem, lg⟩ K := by
  refine SpL.op (s := ⟨nx, fr, mem, lg⟩) (v := V') (m' := m0') nx' (OpOk.of_local (Ko := fun v' m' => v' = V' ∧ m' = m0') (LocalOp.call (m0 := m0) (new := new) l hc rfl (FI.at_ (P := P) (f := f)) (FI.body P f) (FI.name P f) hl hx hh hlow hnd (fun n hn => (hnew n hn).2.2) ?_) ?_ rfl) hsub hnew hnx (fun k hk => Nat.le_of_ble_eq_true (dstOut hd k hk)) h
  · rintro v' m' ⟨rfl, rfl⟩
    exact ⟨V', m0', ⟨rfl, rfl⟩, ⟨nw, hnw, hcn, hV, hN, ht⟩⟩
  · rintro v' m' ⟨rfl, rfl⟩
    refine ⟨fun n b h hb => ht.all n b h hb, fun n b h hb => ?_⟩
    obtain ⟨k, b', _, _, h3, h4, _⟩ := ht.blk n b h
    rw [h4.rw, h3] at hb; cases hb
theorem Take.nil (l : List (Nat × Nat)) (m0 : Mem) (h : ∀ c b, mfind m0 c = some b → b.rw = false) : Take l [] m0 [] [] :=
  ⟨(fun c b h => by cases h), fun c b0 h1 h2 => by rw [h c b0 h1] at h2; cases h2⟩
/-- One that touches no memory. -/
theorem L.call0 {d : Option Tmp} {f : Nat} {fn : Func} [FI P f fn] {args : List Value} [PlL args] {V : Value} [Pl V] {xs : List Operand} {ts : Array TypeId}
    (hc : Fc P f 0 args [] (fun v' m' => v' = V ∧ m' = [])) (hx : xs.map (aeval fr) = args.map some) (hd : dstOk d N = true)
    (h : SpL P N lo ops dr rest ⟨nx, putF fr d V, mem, ⟨[], []⟩ :: lg⟩ K) : SpL P N lo ops dr (⟨d, .call { callee := .value (.func f), args := xs.toArray, argTypes := ts }, ty, pos, af, none⟩ :: rest) ⟨nx, fr, mem, lg⟩ K := by
  refine L.call (m0 := []) (m0' := []) (V' := V) [] [] [] nx hc rfl ?_ ⟨(fun n b h => by cases h), (fun n b n' b' c sh sh' h => by cases h), (fun c b h => by cases h)⟩ (fun p hp => by cases hp) rfl (fun n c h => by cases h) List.nodup_nil (fun n h => by cases h) (Nat.le_refl _) (fun n b h => by cases h) (Pl.rn _).symm (Pl.nm _) (Take.nil _ _ (fun c b h => by cases h)) hd h
  rw [hx]
  exact List.map_congr_left fun v hv => by rw [(PlL.all v hv).rn]
/-- What is handed on to be read: numbers, from some place on. -/
def RoL : List (Nat × Nat) → List (Σ n : Nat, IntKind × List (BitVec n)) → Mem → Prop
  | [], [], _ => True
  | (c, sh) :: l, ⟨n, k, b⟩ :: bs, mem => (∃ (b0 : List (BitVec n)) (opn rw : Bool), mfind mem c = some (.cells (arr k b0) opn rw) ∧ b = b0.drop sh ∧ sh ≤ b0.length ∧ c < GB) ∧ RoL l bs mem
  | _, _, _ => False
def roM : Nat → List (Σ n : Nat, IntKind × List (BitVec n)) → Mem
  | _, [] => []
  | i, ⟨_, k, b⟩ :: bs => (i, some (.cells (arr k b) true false)) :: roM (i + 1) bs
def roM0 (mem : Mem) : List (Nat × Nat) → Mem
  | [] => []
  | (c, _) :: l => (c, (mfind mem c).map ABlk.toRo) :: roM0 mem l
theorem roM0_at {mem : Mem} : ∀ {l : List (Nat × Nat)} {c : Nat} {b : ABlk}, mfind (roM0 mem l) c = some b → ∃ B, mfind mem c = some B ∧ b = B.toRo
  | [], _, _, h => by cases h
  | (k, sh) :: l, c, b, h => by
    simp only [roM0] at h
    rw [mfind_cons] at h
    by_cases hk : k = c
    · subst hk
      rw [if_pos rfl] at h
      cases hm : mfind mem k with
      | none => rw [hm] at h; cases h
      | some B => rw [hm] at h; injection h with h; exact ⟨B, rfl, h.symm⟩
    · rw [if_neg hk] at h
      exact roM0_at h
theorem roM0_has {mem : Mem} : ∀ {l : List (Nat × Nat)} {c sh : Nat} {B : ABlk}, (c, sh) ∈ l → mfind mem c = some B → mfind (roM0 mem l) c = some B.toRo
  | (k, s') :: l, c, sh, B, h, hm => by
    simp only [roM0]
    rw [mfind_cons]
    by_cases hk : k = c
    · subst hk; rw [if_pos rfl, hm]; rfl
    · rw [if_neg hk]
      rcases List.mem_cons.1 h with h | h
      · injection h with h1 h2; exact absurd h1.symm hk
      · exact roM0_has h hm
theorem roM_at : ∀ {bs : List (Σ n : Nat, IntKind × List (BitVec n))} {i n : Nat} {b : ABlk}, mfind (roM i bs) n = some b → ∃ j w k l, n = i + j ∧ bs[j]? = some ⟨w, k, l⟩ ∧ b = .cells (arr k l) true false
  | [], _, _, _, h => by cases h
  | ⟨w, k, l⟩ :: bs, i, n, b, h => by
    simp only [roM] at h
    rw [mfind_cons] at h
    by_cases hk : i = n
    · rw [if_pos hk] at h; injection h with h; exact ⟨0, w, k, l, by omega, rfl, h.symm⟩
    · rw [if_neg hk] at h
      obtain ⟨j, w', k', l', h1, h2, h3⟩ := roM_at h
      exact ⟨j + 1, w', k', l', by omega, by simpa using h2, h3⟩
theorem RoL_at {mem : Mem} : ∀ {l : List (Nat × Nat)} {bs : List (Σ n : Nat, IntKind × List (BitVec n))}, RoL l bs mem → l.length = bs.length ∧ ∀ (j : Nat) w k b, bs[j]? = some ⟨w, k, b⟩ → ∃ c sh, l[j]? = some (c, sh) ∧ ∃ (b0 : List (BitVec w)) (opn rw : Bool), mfind mem c = some (.cells (arr k b0) opn rw) ∧ b = b0.drop sh ∧ sh ≤ b0.length ∧ c < GB
  | [], [], _ => ⟨rfl, fun j w k b h => by simp at h⟩
  | (c, sh) :: l, ⟨n, k, b⟩ :: bs, h => by
    obtain ⟨h1, h2⟩ := RoL_at h.2
    refine ⟨by simp [h1], fun j w k' b' hj => ?_⟩
    cases j with
    | zero =>
      simp at hj
      obtain ⟨rfl, hj⟩ := hj
      simp at hj
      obtain ⟨rfl, rfl⟩ := hj
      exact ⟨c, sh, rfl, h.1⟩
    | succ j =>
      obtain ⟨c', sh', g1, g2⟩ := h2 j w k' b' (by simpa using hj)
      exact ⟨c', sh', by simpa using g1, g2⟩
  | [], _ :: _, h => h.elim
  | _ :: _, [], h => h.elim
theorem sg_at {l : List (Nat × Nat)} {j c sh : Nat} (hl : l.length ≤ GB) (h : l[j]? = some (c, sh)) : sg l j = some (c, sh) := by
  have := (List.getElem?_eq_some_iff.1 h).1
  unfold sg
  have hb : Nat.ble GB j = false := by
    cases hb : Nat.ble GB j with
    | false => rfl
    | true => have := Nat.le_of_ble_eq_true hb; omega
  rw [hb]; exact h
theorem Hand.ro {l : List (Nat × Nat)} {bs : List (Σ n : Nat, IntKind × List (BitVec n))} (hl : l.length ≤ GB) (h : RoL l bs mem) : Hand l (roM 0 bs) (roM0 mem l) := by
  obtain ⟨hlen, hall⟩ := RoL_at h
  refine ⟨fun n b hb => ?_, fun n b n' b' c sh sh' hb => ?_, fun c b0 hb hrw => ?_⟩
  · obtain ⟨j, w, k, x, h1, h2, rfl⟩ := roM_at hb
    obtain ⟨c, sh, g1, b0, opn, rw, g2, g3, g4, g5⟩ := hall j w k x h2
    rw [Nat.zero_add] at h1; subst h1
    refine ⟨c, sh, .cells (arr k b0) opn false, sg_at hl g1, roM0_has (List.mem_of_getElem? g1) g2, arr k b0, opn, rfl, ?_, (fun h => by cases h), fun i v hv => ?_⟩
    · rw [arr_size, arr_size, g3, List.length_drop]
      omega
    · have hi : i < x.length := by have := (Array.getElem?_eq_some_iff.1 hv).1; rwa [arr_size] at this
      rw [arr_get k x i hi] at hv
      injection hv with hv
      subst hv
      rw [g3, List.length_drop] at hi
      rw [arr_get k b0 (sh + i) (by omega)]
      show some _ = some _
      congr 3
      rw [g3]
      simp [at_, List.getD_eq_getElem?_getD]
  · obtain ⟨j, w, k, x, _, _, rfl⟩ := roM_at hb
    intro _ h; cases h
  · obtain ⟨B, hB, rfl⟩ := roM0_at hb
    cases B with
    | cells C opn rw => cases hrw
    | map es ck =>
      exfalso
      have : ∃ sh, (c, sh) ∈ l := by
        clear h hlen hall hl hrw
        induction l with
        | nil => cases hb
        | cons p l ih =>
          obtain ⟨k, sh⟩ := p
          simp only [roM0] at hb
          rw [mfind_cons] at hb
          by_cases hk : k = c
          · subst hk; exact ⟨sh, by simp⟩
          · rw [if_neg hk] at hb
            obtain ⟨sh', h'⟩ := ih hb
            exact ⟨sh', by simp [h']⟩
      obtain ⟨sh, hm⟩ := this
      obtain ⟨j, hj, hjl⟩ := List.mem_iff_getElem.1 hm
      have hj2 : j < bs.length := by omega
      rcases hbs : bs[j] with ⟨w, k, x⟩
      obtain ⟨c', sh', g1, b0, opn, rw, g2, _⟩ := hall j w k x (by rw [List.getElem?_eq_getElem hj2, hbs])
      rw [List.getElem?_eq_getElem hj, hjl] at g1
      injection g1 with g1; injection g1 with e1 e2
      subst e1
      rw [hB] at g2; cases g2
theorem Wk.toRo (B : ABlk) : Wk B B.toRo := by
  cases B with
  | cells C opn rw => exact .inr rfl
  | map es c => exact rfl
theorem RoL.low {l : List (Nat × Nat)} {bs : List (Σ n : Nat, IntKind × List (BitVec n))} (h : RoL l bs mem) : ∀ p, p ∈ l → p.1 < GB := by
  intro p hp
  obtain ⟨hlen, hall⟩ := RoL_at h
  obtain ⟨j, hj, rfl⟩ := List.mem_iff_getElem.1 hp
  have hj2 : j < bs.length := by omega
  rcases hbs : bs[j] with ⟨w, k, x⟩
  obtain ⟨c', sh', g1, b0, opn, rw, _, _, _, g2⟩ := hall j w k x (by rw [List.getElem?_eq_getElem hj2, hbs])
  rw [List.getElem?_eq_getElem hj] at g1
  injection g1 with g1
  rw [g1]; exact g2
/-- One that reads numbers, and changes nothing. -/
theorem L.callRo {d : Option Tmp} {f cn : Nat} {fn : Func} [FI P f fn] {args : List Value} {V : Value} [Pl V] {xs : List Operand} {ts : Array TypeId} (l : List (Nat × Nat)) (bs : List (Σ n : Nat, IntKind × List (BitVec n)))
    (hc : Fc P f cn args (roM 0 bs) (fun v' m' => v' = V ∧ m' = [])) (hl : l.length = cn) (hgb : Nat.ble l.length GB = true) (hx : xs.map (aeval fr) = args.map fun v => some (rn3 (sg l) v)) (hro : RoL l bs mem) (hd : dstOk d N = true)
    (h : SpL P N lo ops dr rest ⟨nx, putF fr d V, mem, ⟨keys (roM0 mem l), []⟩ :: lg⟩ K) : SpL P N lo ops dr (⟨d, .call { callee := .value (.func f), args := xs.toArray, argTypes := ts }, ty, pos, af, none⟩ :: rest) ⟨nx, fr, mem, lg⟩ K := by
  have hh := Hand.ro (Nat.le_of_ble_eq_true hgb) hro
  refine L.call (m0 := roM0 mem l) (m0' := []) (V' := V) l [] [] nx hc hl hx hh (fun p hp => ⟨hro.low p hp, by simp⟩) rfl (fun n c h => by cases h) List.nodup_nil (fun n h => by cases h) (Nat.le_refl _) (fun n b hb => ?_) (Pl.rn _).symm (Pl.nm _) (Take.nil _ _ fun c b hb => ?_) hd h
  · obtain ⟨B, hB, rfl⟩ := roM0_at hb
    exact ⟨B, hB, Wk.toRo B⟩
  · cases hrw : b.rw with
    | false => rfl
    | true =>
      obtain ⟨n, b', h1, h2, _⟩ := hh.rw c b hb hrw
      obtain ⟨_, _, _, _, _, _, rfl⟩ := roM_at h1
      cases h2
end
/-! ### Slices of arrays -/
section
variable {P : Program} {fr : Fr} {d : Option Tmp} {T e : TypeId} {len : Nat} {b : Bool} {x y z : Operand} {n o l h : Nat} {k k' : IntKind} {ty : TypeId} {pos : String} {af : Array Edge} {g : Option (Nat × Bool)}
theorem cap_known {E : Env} {n o k c : Nat} {u : Value} {l : Loc} (hl : E n = some l) (hc : c < capU) (hu : u = .slice (some ⟨l.blk, l.base + o, none⟩) k c) : R3 E (.slice (some ⟨n, o, none⟩) k c) u :=
  ⟨l, hl, by rw [capOf, if_neg (by omega)]; exact hu⟩
theorem PureOp.sliceLo [TA P T len e] [TI P e b 1] (hx : aeval fr x = some (.pointer (some ⟨n, o, none⟩))) (hy : aeval fr y = some (.int k (l : Int))) (h1 : l < len) (hc : len < capU) :
    PureOp P ⟨d, .slice T x (some y) none none, ty, pos, af, g⟩ fr (.slice (some ⟨n, o + l, none⟩) (len - l) (len - l)) := by
  intro E a w hev
  obtain ⟨lc, hlc, e1⟩ := hev x (by simp [Op.operands]) _ hx
  have e2 := R3_int (hev y (by simp [Op.operands]) _ hy)
  have := sl_lo (P := P) (TA.un (P := P) (t := T) (len := len) (e := e)) (TI.sz (P := P) (t := e) (agg := b)) lc.blk (lc.base + o) k (l : Int) l rfl h1 w
  exact ⟨.slice (some ⟨lc.blk, lc.base + o + l, none⟩) (len - l) (len - l), by unfold execOp; simp [e1, e2, this], cap_known hlc (by omega) (by rw [Nat.add_assoc])⟩
theorem PureOp.sliceBoth [TA P T len e] [TI P e b 1] (hx : aeval fr x = some (.pointer (some ⟨n, o, none⟩))) (hy : aeval fr y = some (.int k (l : Int))) (hz : aeval fr z = some (.int k' (h : Int))) (h1 : l ≤ h) (h2 : h ≤ len) (h3 : l < len) (hc : len < capU) :
    PureOp P ⟨d, .slice T x (some y) (some z) none, ty, pos, af, g⟩ fr (.slice (some ⟨n, o + l, none⟩) (h - l) (len - l)) := by
  intro E a w hev
  obtain ⟨lc, hlc, e1⟩ := hev x (by simp [Op.operands]) _ hx
  have e2 := R3_int (hev y (by simp [Op.operands]) _ hy)
  have e3 := R3_int (hev z (by simp [Op.operands]) _ hz)
  have := sl_both (P := P) (TA.un (P := P) (t := T) (len := len) (e := e)) (TI.sz (P := P) (t := e) (agg := b)) lc.blk (lc.base + o) k k' (l : Int) (h : Int) l h rfl rfl h1 h2 h3 w
  exact ⟨.slice (some ⟨lc.blk, lc.base + o + l, none⟩) (h - l) (len - l), by unfold execOp; simp [e1, e2, e3, this], cap_known hlc (by omega) (by rw [Nat.add_assoc])⟩
theorem PureOp.sliceHi [TA P T len e] [TI P e b 1] (hx : aeval fr x = some (.pointer (some ⟨n, o, none⟩))) (hz : aeval fr z = some (.int k' (h : Int))) (h2 : h ≤ len) (hc : len < capU) :
    PureOp P ⟨d, .slice T x none (some z) none, ty, pos, af, g⟩ fr (.slice (some ⟨n, o, none⟩) h len) := by
  intro E a w hev
  obtain ⟨lc, hlc, e1⟩ := hev x (by simp [Op.operands]) _ hx
  have e3 := R3_int (hev z (by simp [Op.operands]) _ hz)
  have := sl_hi (P := P) (TA.un (P := P) (t := T) (len := len) (e := e)) (TI.sz (P := P) (t := e) (agg := b)) lc.blk (lc.base + o) k' (h : Int) h rfl h2 w
  exact ⟨.slice (some ⟨lc.blk, lc.base + o, none⟩) h len, by unfold execOp; simp [e1, e3, this], cap_known hlc hc rfl⟩
theorem PureOp.sliceAll [TA P T len e] [TI P e b 1] (hx : aeval fr x = some (.pointer (some ⟨n, o, none⟩))) (hc : len < capU) :
    PureOp P ⟨d, .slice T x none none none, ty, pos, af, g⟩ fr (.slice (some ⟨n, o, none⟩) len len) := by
  intro E a w hev
  obtain ⟨lc, hlc, e1⟩ := hev x (by simp [Op.operands]) _ hx
  have := sl_all (P := P) (TA.un (P := P) (t := T) (len := len) (e := e)) (TI.sz (P := P) (t := e) (agg := b)) lc.blk (lc.base + o) w
  exact ⟨.slice (some ⟨lc.blk, lc.base + o, none⟩) len len, by unfold execOp; simp [e1, this], cap_known hlc hc rfl⟩
end
section
variable {P : Program} {N lo : Nat} {nx : Nat} {fr : Fr} {mem : Mem} {K : St → Prop} {ops : Array Oper} {rest : List Oper} {dr : Bool} {lg : List Foot} {ty : TypeId} {pos : String} {af : Array Edge} {d : Tmp} {v : Value} {x y z : Operand}
variable {T e : TypeId} {len : Nat} {b : Bool} {n o l h : Nat} {k k' : IntKind}
theorem L.slLo [TA P T len e] [TI P e b 1] (hx : aeval fr x = some (.pointer (some ⟨n, 0, none⟩))) (hy : aeval fr y = some (.int k (l : Int))) (h1 : l < len) (hc : Nat.ble (len + 1) capU = true) (hd : dstOk (some d) N = true)
    (hr : SpL P N lo ops dr rest ⟨nx, (d, .slice (some ⟨n, l, none⟩) (len - l) (len - l)) :: fr, mem, ⟨[], []⟩ :: lg⟩ K) : SpL P N lo ops dr (⟨some d, .slice T x (some y) none none, ty, pos, af, none⟩ :: rest) ⟨nx, fr, mem, lg⟩ K := by
  have := PureOp.sliceLo (P := P) (d := some d) (T := T) (e := e) (ty := ty) (pos := pos) (af := af) (g := none) hx hy h1 (Nat.le_of_ble_eq_true hc)
  rw [Nat.zero_add] at this
  exact SpL.pure this rfl (dstOut hd) hr
theorem L.slBoth [TA P T len e] [TI P e b 1] (hx : aeval fr x = some (.pointer (some ⟨n, 0, none⟩))) (hy : aeval fr y = some (.int k (l : Int))) (hz : aeval fr z = some (.int k' (h : Int))) (h1 : l ≤ h) (h2 : h ≤ len) (h3 : l < len) (hc : Nat.ble (len + 1) capU = true) (hd : dstOk (some d) N = true)
    (hr : SpL P N lo ops dr rest ⟨nx, (d, .slice (some ⟨n, l, none⟩) (h - l) (len - l)) :: fr, mem, ⟨[], []⟩ :: lg⟩ K) : SpL P N lo ops dr (⟨some d, .slice T x (some y) (some z) none, ty, pos, af, none⟩ :: rest) ⟨nx, fr, mem, lg⟩ K := by
  have := PureOp.sliceBoth (P := P) (d := some d) (T := T) (e := e) (ty := ty) (pos := pos) (af := af) (g := none) hx hy hz h1 h2 h3 (Nat.le_of_ble_eq_true hc)
  rw [Nat.zero_add] at this
  exact SpL.pure this rfl (dstOut hd) hr
theorem L.slHi [TA P T len e] [TI P e b 1] (hx : aeval fr x = some (.pointer (some ⟨n, o, none⟩))) (hz : aeval fr z = some (.int k' (h : Int))) (h2 : h ≤ len) (hc : Nat.ble (len + 1) capU = true) (hd : dstOk (some d) N = true)
    (hr : SpL P N lo ops dr rest ⟨nx, (d, .slice (some ⟨n, o, none⟩) h len) :: fr, mem, ⟨[], []⟩ :: lg⟩ K) : SpL P N lo ops dr (⟨some d, .slice T x none (some z) none, ty, pos, af, none⟩ :: rest) ⟨nx, fr, mem, lg⟩ K :=
  SpL.pure (PureOp.sliceHi (e := e) hx hz h2 (Nat.le_of_ble_eq_true hc)) rfl (dstOut hd) hr
theorem L.slAll [TA P T len e] [TI P e b 1] (hx : aeval fr x = some (.pointer (some ⟨n, o, none⟩))) (hc : Nat.ble (len + 1) capU = true) (hd : dstOk (some d) N = true)
    (hr : SpL P N lo ops dr rest ⟨nx, (d, .slice (some ⟨n, o, none⟩) len len) :: fr, mem, ⟨[], []⟩ :: lg⟩ K) : SpL P N lo ops dr (⟨some d, .slice T x none none none, ty, pos, af, none⟩ :: rest) ⟨nx, fr, mem, lg⟩ K :=
  SpL.pure (PureOp.sliceAll (e := e) hx (Nat.le_of_ble_eq_true hc)) rfl (dstOut hd) hr
end
end Go.Proofs.YtbfakdpnefhgkaaDoor.Sl
