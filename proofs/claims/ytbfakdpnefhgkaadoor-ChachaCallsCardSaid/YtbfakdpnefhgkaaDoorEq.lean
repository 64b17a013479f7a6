/-
  Two arrays of whole numbers, compared. Plain lemmas, over any program.
-/
import Derived.Test.YtbfakdpnefhgkaaDoorMem
import Derived.Laws.StructEq
import Derived.ChangeKeysEq
set_option linter.unusedSimpArgs false
set_option linter.unusedVariables false
namespace Go.Proofs.YtbfakdpnefhgkaaDoor.Mem
open Go Go.RowKit
section
variable {P : Program}
theorem nb_inj {n : Nat} {x y : BitVec n} (h : Bv.nb x = Bv.nb y) : x = y := by
  have : x.toNat = y.toNat := by unfold Bv.nb at h; omega
  exact BitVec.eq_of_toNat_eq this
theorem run_items_nums {e : TypeId} {ke : IntKind} (he : P.underlying e = some (.int ke)) (d : Nat) (k : IntKind) {m : Nat} (l l' : List (BitVec m)) (w : World) : ∀ is : List Nat, (∀ i ∈ is, i < l.length ∧ i < l'.length) →
    (Op.eqItems (d + 1) e 1 (arr k l) (arr k l') is).run P w = .ok (is.all fun i => at_ l i == at_ l' i) w
  | [], _ => by simp [Op.eqItems]
  | i :: is, h => by
    have hp : P.plainKey e = true := by simp [Program.plainKey, he]
    obtain ⟨h1, h2⟩ := h i (by simp)
    have p1 := run_part_plain w hp (arr_get k l i h1)
    have p2 := run_part_plain w hp (arr_get k l' i h2)
    have p3 := run_equalIn_int w d e k ke (Bv.nb (at_ l i)) (Bv.nb (at_ l' i)) he
    have ih := run_items_nums he d k l l' w is (fun j hj => h j (by simp [hj]))
    have hb : (Bv.nb (at_ l i) == Bv.nb (at_ l' i)) = (at_ l i == at_ l' i) := by
      by_cases hq : at_ l i = at_ l' i
      · simp [hq]
      · rw [beq_eq_false_iff_ne.2 hq, beq_eq_false_iff_ne]
        exact fun h => hq (nb_inj h)
    simp only [Op.eqItems, Nat.mul_one, Sem.run_bind, p1, p2, p3, Result.andThen_ok, List.all_cons, hb]
    cases hh : (at_ l i == at_ l' i)
    · simp
    · simp only [Bool.not_true, Bool.false_eq_true, if_false, Bool.true_and, ih]
theorem all_eq {m : Nat} (l l' : List (BitVec m)) (n : Nat) (h : l.length = n) (h' : l'.length = n) : ((List.range n).all fun i => at_ l i == at_ l' i) = (l == l') := by
  rw [Bool.eq_iff_iff, List.all_eq_true, beq_iff_eq]
  constructor
  · intro ha
    apply List.ext_getElem (by omega)
    intro i h1 h2
    have := ha i (by simp; omega)
    rw [beq_iff_eq] at this
    simpa [at_, List.getD_eq_getElem?_getD, List.getElem?_eq_getElem h1, List.getElem?_eq_getElem h2] using this
  · rintro rfl
    intro i _
    exact beq_self_eq_true _
theorem run_equal_nums {t e : TypeId} {n : Nat} {i : TypeInfo} {ke : IntKind} (hu : P.underlying t = some (.array n e)) (hi : P.info? e = some i) (hc : P.cellsOf e = 1) (he : P.underlying e = some (.int ke)) (k : IntKind) {m : Nat} (l l' : List (BitVec m)) (hl : l.length = n) (hl' : l'.length = n) (w : World) :
    (Op.equalIn 10000 t (.agg (arr k l)) (.agg (arr k l'))).run P w = .ok (l == l') w := by
  rw [run_equalIn_array w 9999 (arr k l) (arr k l') hu hi, hc, run_items_nums he 9998 k l l' w (List.range n) (fun j hj => by simp at hj; omega), all_eq l l' n hl hl']
end
end Go.Proofs.YtbfakdpnefhgkaaDoor.Mem
