/-
  A slice of bytes as an argument: opened, and a law that is handed one.
-/
import Derived.Test.YtbfakdpnefhgkaaDoorSr
import Derived.Test.YtbfakdpnefhgkaaDoorOpen
import Derived.OpenShut
import Derived.WideKeyArgs
set_option linter.unusedSimpArgs false
set_option linter.unusedVariables false
namespace Go.Proofs.YtbfakdpnefhgkaaDoor.Sl
open Go Go.RowKit Go.ChangeShapes Go.WideShapes Go.ChangeAt Bv Mem
section
variable {P : Program}
theorem rowAt_le {fits : TypeId → Bool} {d : Nat} {e : TypeId} {count off n : Nat} (h : rowAt P fits d e count off n = true) : off ≤ count * P.cellsOf e := by
  cases d with
  | zero => simp [rowAt] at h
  | succ d =>
    unfold rowAt at h
    dsimp only at h
    by_cases hs : P.cellsOf e = 0
    · rw [if_pos hs] at h; cases h
    · rw [if_neg hs] at h
      have hdm := Nat.div_add_mod off (P.cellsOf e)
      have hml := Nat.mod_lt off (show 0 < P.cellsOf e by omega)
      simp only [Bool.or_eq_true, Bool.and_eq_true, beq_iff_eq, decide_eq_true_eq] at h
      rcases h with ⟨⟨h1, h2⟩, _⟩ | ⟨h1, _⟩
      · have := Nat.mul_le_mul_left (P.cellsOf e) (show off / P.cellsOf e ≤ count by omega)
        rw [Nat.mul_comm count]; omega
      · have := Nat.mul_le_mul_left (P.cellsOf e) (show off / P.cellsOf e + 1 ≤ count by omega)
        rw [Nat.mul_add, Nat.mul_one] at this
        rw [Nat.mul_comm count]; omega
theorem liesAt_le : ∀ {d : Nat} {e : TypeId} {count off : Nat} {u : TypeId} {n : Nat}, liesAt P d e count off u n = true → off ≤ count * P.cellsOf e
  | 0, _, _, _, _, _, h => by simp [liesAt] at h
  | d + 1, e, count, off, u, n, h => by
    unfold liesAt at h
    simp only [Bool.or_eq_true] at h
    rcases h with h | h
    · exact rowAt_le h
    · split at h
      · exact liesAt_le h
      · cases h
/-- A slice of bytes that came in. -/
theorem open_bytes {H : Type} {enc : TypeId × Value → H} {W : World} {r : Reach} {b0 base : Nat} {t e : TypeId} {v : Value} {d : DataW H} {p : List MemPlace} (ht : P.underlying t = some (.slice e)) (he : P.underlying e = some (.int .u8)) (hce : P.cellsOf e = 1)
    (hv : Value.okWide P W r b0 t v) (h : DataW.Trod enc P W base (fun _ => true) true t v d p) :
    v = .slice none 0 0 ∨ ∃ (blk off len cap : Nat) (D : Array Value) (tt : TypeId) (fz : Nat × Nat) (l : List (BitVec 8)), v = .slice (some ⟨blk, off, none⟩) len cap ∧ len ≤ cap ∧ cap < capU ∧ l.length = cap ∧ W.heap[blk]? = some (.cells D tt fz) ∧ off + cap ≤ D.size ∧
      ∀ i, i < cap → D[off + i]? = some (.int .u8 (nb (at_ l i))) := by
  have hv0 := hv
  obtain ⟨a1, len, cap, rfl⟩ := okWide_slice ht hv
  obtain ⟨fuel, hf⟩ := h
  rcases open_ints ht he hce hf with ⟨hcs, hx⟩ | ⟨a, len', cap', zs, hcs, _, hl, hm, hz, hx, hcell, hwz⟩
  · simp [Value.cells] at hcs
    obtain ⟨rfl, rfl, rfl⟩ := hcs
    exact .inl rfl
  · simp [Value.cells] at hcs
    obtain ⟨rfl, rfl, rfl⟩ := hcs
    simp only [if_true] at hz
    right
    have hh : W.has P r b0 a e cap := by
      have h1 : Cell.okWide P W r b0 t (.slice (some a) len cap) := by simpa only [Value.okWide, ht] using hv0
      have h2 : Cell.ok P W r b0 t (.slice (some a) len cap) := by simpa only [Cell.okWide, ht] using h1
      simp only [Cell.ok, ht] at h2
      exact h2.2.2
    obtain ⟨_, hsp, row, cells, hsh, hlies⟩ := hh
    obtain ⟨blk, off, sp⟩ := a
    simp only at hsp hsh hlies
    subst hsp
    unfold World.shape? at hsh
    split at hsh
    · rename_i D tt fz hblk
      simp only [Option.some.injEq, Prod.mk.injEq] at hsh
      obtain ⟨rfl, rfl⟩ := hsh
      have hoff : off ≤ D.size := Nat.le_trans (liesAt_le hlies) (Nat.div_mul_le_self _ _)
      have hc : ∀ i, i < cap → D[off + i]? = some (.int .u8 (zs.getD i 0)) := by
        intro i hi
        have := hcell i (by omega)
        rw [add_off] at this
        simpa [World.cell?, hblk] using this
      refine ⟨blk, off, len, cap, D, tt, fz, zs.map (BitVec.ofInt 8), rfl, hl, by unfold capU; unfold maxLen at hm; omega, by rw [List.length_map, hz], hblk, ?_, fun i hi => ?_⟩
      · rcases Nat.eq_zero_or_pos cap with h0 | h0
        · omega
        · have := (Array.getElem?_eq_some_iff.1 (hc (cap - 1) (by omega))).1
          omega
      · rw [hc i hi]
        have hiz : i < zs.length := by omega
        have e1 : zs.getD i 0 = zs[i] := by simp [List.getD_eq_getElem?_getD, List.getElem?_eq_getElem hiz]
        have e2 : at_ (zs.map (BitVec.ofInt 8)) i = BitVec.ofInt 8 zs[i] := by simp [at_, List.getD_eq_getElem?_getD, List.getElem?_eq_getElem hiz]
        rw [e1, e2, num8 (hwz _ (List.getElem_mem hiz))]
    · cases hsh
/-- What is known of such an argument. -/
def BytesArg (W : World) (v : Value) : Prop :=
  v = .slice none 0 0 ∨ ∃ (blk off len cap : Nat) (D : Array Value) (tt : TypeId) (fz : Nat × Nat) (l : List (BitVec 8)), v = .slice (some ⟨blk, off, none⟩) len cap ∧ len ≤ cap ∧ cap < capU ∧ l.length = cap ∧ W.heap[blk]? = some (.cells D tt fz) ∧ off + cap ≤ D.size ∧
      ∀ i, i < cap → D[off + i]? = some (.int .u8 (nb (at_ l i)))
theorem open_bytesA {H : Type} {enc : TypeId × Value → H} {W : World} {r : Reach} {b0 base : Nat} {t e : TypeId} {v : Value} {d : DataW H} {p : List MemPlace} (ht : P.underlying t = some (.slice e)) (he : P.underlying e = some (.int .u8)) (hce : P.cellsOf e = 1)
    (hv : Value.okWide P W r b0 t v) (h : DataW.Trod enc P W base (fun _ => true) true t v d p) : BytesArg W v := open_bytes ht he hce hv h
/-- A law that is handed bytes, to read. -/
theorem Fc.callsB {f : Nat} {pre post : List Value} [hs : Selfs pre] [hs' : Selfs post] {K : Value → Mem → Prop} {len cp base blk : Nat} {D : Array Value} {t : TypeId} {fz : Nat × Nat} {l : List (BitVec 8)} (h : Fc P f 1 (pre ++ .slice (some ⟨0, 0, none⟩) len cp :: post) (roM 0 [⟨8, .u8, l⟩]) K)
    (w : World) (ht : TabAt w) (hb : w.heap[blk]? = some (.cells D t fz)) (hD : base + l.length ≤ D.size) (hl : ∀ i, i < l.length → D[base + i]? = some (.int .u8 (nb (at_ l i)))) (hcp : cp < capU) {v0 : Value} (hK : ∀ v m, K v m → v = v0) (h0 : ∀ E u, R3 E v0 u → u = v0) :
    Calls P f (pre ++ .slice (some ⟨blk, base, none⟩) len cp :: post).toArray w fun e w' => e = .returned v0 ∧ Below w.heap.size w w' := by
  have hE : ∀ n, 1 ≤ n → (fun n => if n = 0 then some (⟨blk, base, D.size - base⟩ : Loc) else none : Env) n = none := fun n hn => if_neg (by omega)
  refine (h (fun n => if n = 0 then some ⟨blk, base, D.size - base⟩ else none) (pre ++ .slice (some ⟨blk, base, none⟩) len cp :: post).toArray w ?_ ⟨⟨fun n b hn => ?_, fun n b n' b' l1 l2 hn _ hrw => ?_, fun g l1 hg hl1 => ?_⟩, fun g C hg => ⟨ht g C hg, ?_⟩⟩ (fun n hn _ => hE n hn)).mono ?_
  · have hall : ∀ (xs ys : List Value) E, xs.length = ys.length → (∀ i v, xs[i]? = some v → ∃ u, ys[i]? = some u ∧ R3 E v u) → AR (R3 E) xs.toArray ys.toArray := fun xs ys E h1 h2 => ⟨by simpa using h1, fun i v hv => by simpa using h2 i v (by simpa using hv)⟩
    refine hall _ _ _ (by simp) (fun i v hv => ?_)
    by_cases h1 : i < pre.length
    · rw [List.getElem?_append_left h1] at hv ⊢
      exact ⟨v, hv, (hs.all v (List.mem_of_getElem? hv)).r _⟩
    · rw [List.getElem?_append_right (by omega)] at hv ⊢
      cases hi : i - pre.length with
      | zero =>
        rw [hi] at hv
        simp at hv
        subst hv
        exact ⟨_, rfl, ⟨blk, base, D.size - base⟩, rfl, by rw [capOf, if_neg (by omega)]; rfl⟩
      | succ j =>
        rw [hi] at hv
        simp at hv
        exact ⟨v, by simpa using hv, (hs'.all v (List.mem_of_getElem? hv)).r _⟩
  · simp only [roM] at hn
    rw [mfind_cons] at hn
    by_cases hz : 0 = n
    · rw [if_pos hz] at hn
      injection hn with hn
      subst hn; subst hz
      refine ⟨⟨blk, base, D.size - base⟩, rfl, D, t, fz, hb, by simp; omega, by rw [arr_size]; simp; omega, (fun h => by cases h), (fun h => by cases h), fun i v hv => ?_⟩
      have hi : i < l.length := by have := (Array.getElem?_eq_some_iff.1 hv).1; rwa [arr_size] at this
      rw [arr_get .u8 l i hi] at hv
      injection hv with hv
      subst hv
      exact ⟨_, hl i hi, rfl⟩
    · rw [if_neg hz] at hn; cases hn
  · obtain ⟨_, _, _, _, _, _, rfl⟩ := roM_at hn
    cases hrw
  · have : g ≠ 0 := by unfold GB at hg; omega
    rw [if_neg this] at hl1; cases hl1
  · rintro ⟨n, b, l1, h1, h2, _⟩
    obtain ⟨_, _, _, _, _, _, rfl⟩ := roM_at h1
    cases h2
  · rintro e w' ⟨E', v, m', u, hk, rfl, hr, _, hst⟩
    obtain rfl := hK _ _ hk
    refine ⟨by rw [h0 _ _ hr], hst.kept.below fun n b h => ?_⟩
    obtain ⟨_, _, _, _, _, _, rfl⟩ := roM_at h
    rfl
end
end Go.Proofs.YtbfakdpnefhgkaaDoor.Sl
