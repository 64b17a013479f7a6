/-
  An array of whole numbers by value, as the reader reads it: opened, and shut again. Plain lemmas, over any program.
-/
import Derived.Test.YtbfakdpnefhgkaaDoorMem
import Derived.OpenShut
import Derived.Lib.LaidTab
import Derived.ProofKit
set_option linter.unusedSimpArgs false
set_option linter.unusedVariables false
namespace Go.Proofs.YtbfakdpnefhgkaaDoor.Mem
open Go Go.RowKit
section
variable {H : Type} {enc : TypeId × Value → H} {P : Program} {w : World} {base : Nat} {spare : Nat → Bool} {held : Bool}
/-- The datum of some numbers. -/
def numsD {H : Type} (k : IntKind) (zs : List Int) : DataW H := .agg (zs.map fun z => .lit (.int k z))
theorem mapM_all {α β : Type} {f : α → Option β} {g : α → β} : ∀ (l : List α), (∀ a ∈ l, f a = some (g a)) → l.mapM f = some (l.map g)
  | [], _ => rfl
  | a :: l, h => by
    rw [List.mapM_cons, h a (by simp), mapM_all l (fun b hb => h b (by simp [hb]))]
    rfl
theorem open_nums {r : Reach} {b0 : Nat} {t e : TypeId} {n : Nat} {k : IntKind} {v : Value} {d : DataW H} {p : List MemPlace} (ht : P.underlying t = some (.array n e)) (he : P.underlying e = some (.int k)) (hce : P.cellsOf e = 1) (hct : P.cellsOf t = n)
    (hv : Value.okWide P w r b0 t v) (h : DataW.Trod enc P w base spare held t v d p) :
    ∃ zs : List Int, zs.length = n ∧ (∀ z ∈ zs, (Lit.int k z).wf = true) ∧ v = .agg (zs.map fun z => Value.int k z).toArray ∧ d = numsD k zs ∧ p = [] := by
  obtain ⟨cs, rfl, hsz⟩ : ∃ cs, v = .agg cs ∧ cs.size = P.cellsOf t := by
    simp only [Value.okWide, ht] at hv
    obtain ⟨cs, h1, h2, _⟩ := hv
    exact ⟨cs, h1, h2⟩
  obtain ⟨fuel, hf⟩ := h
  obtain ⟨xs, m, rfl, hx, hl, hxn, hall⟩ := DataW.trod_array ht hf
  simp only [Prod.mk.injEq] at hx
  have hcl : cs.toList.length = n := by rw [← hct, ← hsz]; simp
  have each : ∀ i, i < n → ∃ z, cs.toList[i]? = some (.int k z) ∧ xs[i]? = some (.lit (.int k z), []) ∧ (Lit.int k z).wf = true := by
    intro i hi
    have h1 := hall i hi
    rw [hce, Nat.mul_one] at h1
    have h2 : (Value.agg cs).cells.toList = cs.toList := rfl
    rw [h2, List.drop_eq_getElem_cons (by omega)] at h1
    simp only [List.take_succ_cons, List.take_zero] at h1
    have hxi : i < xs.length := by omega
    rw [List.getElem?_eq_getElem hxi] at h1
    obtain ⟨z, hz, hxz, hw⟩ := DataW.trod_int he h1
    injection hz with hz _
    exact ⟨z, by rw [List.getElem?_eq_getElem (by omega), hz], by rw [List.getElem?_eq_getElem hxi, hxz], hw⟩
  refine ⟨cs.toList.map fun v => match v with | .int _ z => z | _ => 0, by simp [hcl], ?_, ?_, ?_, ?_⟩
  · intro z hz
    obtain ⟨v, hv, rfl⟩ := List.mem_map.1 hz
    obtain ⟨i, hi, rfl⟩ := List.mem_iff_getElem.1 hv
    obtain ⟨z, h1, _, hw⟩ := each i (by omega)
    rw [List.getElem?_eq_getElem hi] at h1
    injection h1 with h1
    rw [h1]; exact hw
  · have : cs = cs.toList.toArray := by simp
    refine congrArg Value.agg ?_
    rw [this]
    refine congrArg List.toArray ?_
    apply List.ext_getElem?
    intro i
    simp only [List.getElem?_map, List.toList_toArray]
    rcases Nat.lt_or_ge i n with hi | hi
    · obtain ⟨z, h1, _, _⟩ := each i hi
      rw [h1]; rfl
    · rw [List.getElem?_eq_none (by omega)]; rfl
  · rw [hx.1]
    refine congrArg DataW.agg ?_
    apply List.ext_getElem?
    intro i
    simp only [List.getElem?_map]
    rcases Nat.lt_or_ge i n with hi | hi
    · obtain ⟨z, h1, h2, _⟩ := each i hi
      rw [h1, h2]; rfl
    · rw [List.getElem?_eq_none (by omega), List.getElem?_eq_none (by omega)]; rfl
  · rw [hx.2, List.flatMap_eq_nil_iff]
    intro y hy
    obtain ⟨i, hi, rfl⟩ := List.mem_iff_getElem.1 hy
    obtain ⟨z, _, h2, _⟩ := each i (by omega)
    rw [List.getElem?_eq_getElem hi] at h2
    injection h2 with h2
    rw [h2]
theorem shut_nums {t e : TypeId} {n : Nat} {k : IntKind} {zs : List Int} (ht : P.underlying t = some (.array n e)) (he : P.underlying e = some (.int k)) (hce : P.cellsOf e = 1) (hct : P.cellsOf t = n) (hl : zs.length = n) (hw : ∀ z ∈ zs, (Lit.int k z).wf = true) :
    DataW.Trod enc P w base spare held t (.agg (zs.map fun z => Value.int k z).toArray) (numsD k zs) [] := by
  refine ⟨2, ?_⟩
  have h2 : (Value.agg (zs.map fun z => Value.int k z).toArray).cells.toList = zs.map fun z => Value.int k z := by simp [Value.cells]
  rw [h2]
  have hone : ∀ i, i < n → DataW.trod enc P w base spare held 1 e (((zs.map fun z => Value.int k z).drop (i * 1)).take 1) = some (.lit (.int k (zs.getD i 0)), []) := by
    intro i hi
    rw [Nat.mul_one, List.drop_eq_getElem_cons (by simp; omega)]
    simp only [List.take_succ_cons, List.take_zero, List.getElem_map]
    have hz : zs.getD i 0 = zs[i] := by simp [List.getD_eq_getElem?_getD, List.getElem?_eq_getElem (show i < zs.length by omega)]
    rw [hz]
    simp [DataW.trod, he, hw zs[i] (List.getElem_mem _)]
  unfold DataW.trod
  simp only [ht, hce, hct]
  rw [if_pos (by simp [hl]), mapM_all (g := fun i => (DataW.lit (.int k (zs.getD i 0)), [])) _ (fun i hi => hone i (by simpa using hi))]
  simp only [Option.map_some, Option.some.injEq, Prod.mk.injEq, List.map_map, List.flatMap_map, numsD]
  refine ⟨congrArg DataW.agg ?_, ?_⟩
  · apply List.ext_getElem?
    intro i
    simp only [List.getElem?_map, Function.comp_def]
    rcases Nat.lt_or_ge i n with hi | hi
    · rw [List.getElem?_range hi, List.getElem?_eq_getElem (show i < zs.length by omega)]
      simp [List.getD_eq_getElem?_getD, List.getElem?_eq_getElem (show i < zs.length by omega)]
    · rw [List.getElem?_eq_none (by simpa using hi), List.getElem?_eq_none (by omega)]
      rfl
  · simp [List.flatMap_eq_nil_iff]
/-- Whole numbers of a kind as bits. -/
theorem arr_of_nums8 {zs : List Int} (hw : ∀ z ∈ zs, (Lit.int .u8 z).wf = true) : ∃ l : List (BitVec 8), l.length = zs.length ∧ (zs.map fun z => Value.int .u8 z).toArray = arr .u8 l := by
  refine ⟨zs.map (BitVec.ofInt 8), by simp, ?_⟩
  unfold arr
  rw [List.map_map]
  refine congrArg List.toArray (List.map_congr_left fun z hz => ?_)
  have h := hw z hz
  simp only [Lit.wf, IntKind.min, IntKind.max, IntKind.signed, IntKind.bits, Bool.and_eq_true, decide_eq_true_eq] at h
  have e : Bv.nb (BitVec.ofInt 8 z) = z := by rw [← Bv.wrap_u8, IntWalk.u8_in]; simp at h; omega
  simp [Function.comp_def, e]
theorem arr_of_nums32 {zs : List Int} (hw : ∀ z ∈ zs, (Lit.int .u32 z).wf = true) : ∃ l : List (BitVec 32), l.length = zs.length ∧ (zs.map fun z => Value.int .u32 z).toArray = arr .u32 l := by
  refine ⟨zs.map (BitVec.ofInt 32), by simp, ?_⟩
  unfold arr
  rw [List.map_map]
  refine congrArg List.toArray (List.map_congr_left fun z hz => ?_)
  have h := hw z hz
  simp only [Lit.wf, IntKind.min, IntKind.max, IntKind.signed, IntKind.bits, Bool.and_eq_true, decide_eq_true_eq] at h
  have e : Bv.nb (BitVec.ofInt 32 z) = z := by rw [← Bv.wrap_u32, IntWalk.u32_in]; simp at h; omega
  simp [Function.comp_def, e]
theorem num32 {z : Int} (hw : (Lit.int .u32 z).wf = true) : Bv.nb (BitVec.ofInt 32 z) = z := by
  simp only [Lit.wf, IntKind.min, IntKind.max, IntKind.signed, IntKind.bits, Bool.and_eq_true, decide_eq_true_eq] at hw
  rw [← Bv.wrap_u32, IntWalk.u32_in]; simp at hw; omega
theorem num8 {z : Int} (hw : (Lit.int .u8 z).wf = true) : Bv.nb (BitVec.ofInt 8 z) = z := by
  simp only [Lit.wf, IntKind.min, IntKind.max, IntKind.signed, IntKind.bits, Bool.and_eq_true, decide_eq_true_eq] at hw
  rw [← Bv.wrap_u8, IntWalk.u8_in]; simp at hw; omega
theorem bd64 {z : Int} (hw : (Lit.int .i64 z).wf = true) : -9223372036854775808 ≤ z ∧ z ≤ 9223372036854775807 := by
  simp only [Lit.wf, IntKind.min, IntKind.max, IntKind.signed, IntKind.bits, Bool.and_eq_true, decide_eq_true_eq] at hw
  simp at hw; omega
end
end Go.Proofs.YtbfakdpnefhgkaaDoor.Mem
