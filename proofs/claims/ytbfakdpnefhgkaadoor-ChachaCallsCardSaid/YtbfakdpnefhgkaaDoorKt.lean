/-
  The verifier's own helpers by contract.
-/
import Derived.Test.YtbfakdpnefhgkaaDoorSi
set_option linter.unusedSimpArgs false
set_option linter.unusedVariables false
namespace Go.Proofs.YtbfakdpnefhgkaaDoor
open Sl Mem Bv
def pickN (n : Int) (m : Nat) : Nat := (n % (m : Int)).toNat
theorem pickN_lt (n : Int) (m : Nat) (h : 0 < m) : pickN n m < m := by
  unfold pickN
  have h1 := Int.emod_nonneg n (show (m : Int) ≠ 0 by omega)
  have h2 := Int.emod_lt_of_pos n (show (0 : Int) < m by omega)
  omega
theorem remI (T : TypeId) (n : Int) (m : Nat) (h : 0 < m) : binOp .rem T (.int .i64 n) (.int .i64 (m : Int)) = Pure.pure (.int .i64 (n.tmod m)) := by
  have h' : binOp .rem T (.int .i64 n) (.int .i64 (m : Int)) = Op.intDiv .rem .i64 n m := by simp [binOp]
  rw [h']
  simp only [Op.intDiv]
  rw [if_neg (by omega)]
theorem pick_fn (n : Int) (m : Nat) (hm : 0 < m) (hm2 : m < 4611686018427387904) : Fc Tryd.prog 14 0 [.int .i64 n, .int .i64 (m : Int)] [] (fun v mm => v = .int .i64 ((pickN n m : Nat) : Int) ∧ mm = []) := by
  have hlt : ¬ m < 1 := by omega
  have hb1 : (n.tmod m).natAbs < m := by
    rw [Int.natAbs_tmod]
    exact Nat.mod_lt _ (by omega)
  have he : n.tmod m = n % (m : Int) ∨ n.tmod m = n % (m : Int) - m := by
    rw [Int.tmod_eq_emod]
    split
    · left; omega
    · right; omega
  have h1 := Int.emod_nonneg n (show (m : Int) ≠ 0 by omega)
  have h2 := Int.emod_lt_of_pos n (show (0 : Int) < m by omega)
  have hp : (pickN n m : Int) = n % (m : Int) := by unfold pickN; omega
  refine Fc.enter (N := 16) (fn := Tryd.f14) (rs := _) Tryd.func14 rfl Tryd.results14 rfl ?_
  repeat (first | refine Sp.seq ?_ | refine C.region ?_ | refine C.regionD (by kernel_rfl) ?_ | refine L.nil ?_ | refine L.nilD (by kernel_rfl) ?_ | (with_reducible refine C.next ?_) | refine Sp.block ?_ | refine Sp.skip ?_ | refine Sp.exit ?_ | (with_reducible refine C.bNormal ?_) | (with_reducible refine C.xSeq ?_) | (with_reducible refine C.xHit ?_) | (with_reducible refine C.xMiss rfl ?_) | (first
  | refine L.move rfl rfl ?_
  | refine L.assign rfl rfl ?_
  | refine L.bv rfl rfl rfl rfl ?_
  | refine L.shiftB rfl rfl rfl rfl ?_
  | refine L.shiftN rfl rfl rfl rfl ?_
  | refine L.bvCmp rfl rfl rfl rfl ?_
  | refine L.cmpN rfl rfl rfl rfl ?_
  | refine L.addN rfl rfl (by omega) rfl ?_
  | refine L.mulN rfl rfl (by omega) rfl ?_
  | refine L.subN rfl rfl (by omega) (by omega) rfl ?_
  | refine L.remN rfl rfl (by omega) rfl ?_
  | refine L.quoN rfl rfl (by omega) (by omega) rfl ?_
  | refine L.quoB rfl rfl (by decide) rfl ?_
  | refine L.not rfl rfl ?_
  | refine L.convB rfl rfl ?_
  | refine L.convN rfl rfl ?_
  | refine L.extract rfl rfl rfl rfl ?_
  | refine L.atA0 rfl rfl (by omega) rfl ?_
  | refine L.atA rfl rfl (by omega) rfl ?_
  | refine L.atA0s rfl rfl (by omega) rfl ?_
  | refine L.atS0 rfl rfl (by omega) rfl ?_
  | refine L.atS rfl rfl (by omega) rfl ?_
  | refine L.atS0s rfl rfl (by omega) rfl ?_
  | refine L.len rfl rfl ?_
  | refine L.lenNil rfl rfl ?_
  | refine L.slLo rfl rfl (by omega) rfl rfl ?_
  | refine L.slBoth rfl rfl rfl (by omega) (by omega) (by omega) rfl rfl ?_
  | refine L.slHi rfl rfl (by omega) rfl rfl ?_
  | refine L.slAll rfl rfl rfl ?_
  | refine L.indexW rfl rfl (by omega) (by omega) rfl ?_
  | refine L.loadW rfl rfl (by first | omega | (simp only [List.length_set]; omega)) rfl ?_
  | refine L.loadArr rfl rfl (by assumption) rfl ?_
  | refine L.loadL rfl rfl rfl rfl ?_
  | refine L.load rfl rfl rfl rfl ?_
  | refine L.boxA rfl rfl rfl ?_
  | refine L.box1 rfl rfl rfl rfl ?_
  | refine L.alloc rfl rfl ?_
  | refine L.storeW rfl rfl rfl (by first | omega | (simp only [List.length_set]; omega)) ?_
  | refine L.store rfl rfl rfl rfl (by omega) ?_
  | refine L.storeArr rfl rfl rfl (by first | assumption | rfl) (by first | assumption | rfl) ?_
  | refine L.storeA rfl rfl rfl rfl rfl ?_
  | refine L.pick rfl rfl rfl ?_
  | refine L.minmax rfl rfl rfl rfl ?_
  | refine L.eqArr rfl rfl (by first | assumption | rfl) (by first | assumption | rfl) rfl rfl ?_
  | refine L.str rfl rfl (by omega) rfl ?_
  | refine L.strNil rfl rfl ?_
  | refine L.cmpS rfl rfl rfl rfl ?_
  | refine L.make rfl rfl (by omega) (by omega) (by omega) rfl rfl ?_
  | refine L.bs1 rfl rfl rfl ?_
  | refine L.bs0 rfl rfl ?_
  | refine L.met rfl rfl rfl ?_
  | refine L.loadG rfl rfl (by kernel_rfl) rfl ?_))
  refine C.condF rfl (decide_eq_false hlt) ?_
  repeat (first | refine Sp.seq ?_ | refine C.region ?_ | refine C.regionD (by kernel_rfl) ?_ | refine L.nil ?_ | refine L.nilD (by kernel_rfl) ?_ | (with_reducible refine C.next ?_) | refine Sp.block ?_ | refine Sp.skip ?_ | refine Sp.exit ?_ | (with_reducible refine C.bNormal ?_) | (with_reducible refine C.xSeq ?_) | (with_reducible refine C.xHit ?_) | (with_reducible refine C.xMiss rfl ?_) | (first
  | refine L.move rfl rfl ?_
  | refine L.assign rfl rfl ?_
  | refine L.bv rfl rfl rfl rfl ?_
  | refine L.shiftB rfl rfl rfl rfl ?_
  | refine L.shiftN rfl rfl rfl rfl ?_
  | refine L.bvCmp rfl rfl rfl rfl ?_
  | refine L.cmpN rfl rfl rfl rfl ?_
  | refine L.addN rfl rfl (by omega) rfl ?_
  | refine L.mulN rfl rfl (by omega) rfl ?_
  | refine L.subN rfl rfl (by omega) (by omega) rfl ?_
  | refine L.remN rfl rfl (by omega) rfl ?_
  | refine L.quoN rfl rfl (by omega) (by omega) rfl ?_
  | refine L.quoB rfl rfl (by decide) rfl ?_
  | refine L.not rfl rfl ?_
  | refine L.convB rfl rfl ?_
  | refine L.convN rfl rfl ?_
  | refine L.extract rfl rfl rfl rfl ?_
  | refine L.atA0 rfl rfl (by omega) rfl ?_
  | refine L.atA rfl rfl (by omega) rfl ?_
  | refine L.atA0s rfl rfl (by omega) rfl ?_
  | refine L.atS0 rfl rfl (by omega) rfl ?_
  | refine L.atS rfl rfl (by omega) rfl ?_
  | refine L.atS0s rfl rfl (by omega) rfl ?_
  | refine L.len rfl rfl ?_
  | refine L.lenNil rfl rfl ?_
  | refine L.slLo rfl rfl (by omega) rfl rfl ?_
  | refine L.slBoth rfl rfl rfl (by omega) (by omega) (by omega) rfl rfl ?_
  | refine L.slHi rfl rfl (by omega) rfl rfl ?_
  | refine L.slAll rfl rfl rfl ?_
  | refine L.indexW rfl rfl (by omega) (by omega) rfl ?_
  | refine L.loadW rfl rfl (by first | omega | (simp only [List.length_set]; omega)) rfl ?_
  | refine L.loadArr rfl rfl (by assumption) rfl ?_
  | refine L.loadL rfl rfl rfl rfl ?_
  | refine L.load rfl rfl rfl rfl ?_
  | refine L.boxA rfl rfl rfl ?_
  | refine L.box1 rfl rfl rfl rfl ?_
  | refine L.alloc rfl rfl ?_
  | refine L.storeW rfl rfl rfl (by first | omega | (simp only [List.length_set]; omega)) ?_
  | refine L.store rfl rfl rfl rfl (by omega) ?_
  | refine L.storeArr rfl rfl rfl (by first | assumption | rfl) (by first | assumption | rfl) ?_
  | refine L.storeA rfl rfl rfl rfl rfl ?_
  | refine L.pick rfl rfl rfl ?_
  | refine L.minmax rfl rfl rfl rfl ?_
  | refine L.eqArr rfl rfl (by first | assumption | rfl) (by first | assumption | rfl) rfl rfl ?_
  | refine L.str rfl rfl (by omega) rfl ?_
  | refine L.strNil rfl rfl ?_
  | refine L.cmpS rfl rfl rfl rfl ?_
  | refine L.make rfl rfl (by omega) (by omega) (by omega) rfl rfl ?_
  | refine L.bs1 rfl rfl rfl ?_
  | refine L.bs0 rfl rfl ?_
  | refine L.met rfl rfl rfl ?_
  | refine L.loadG rfl rfl (by kernel_rfl) rfl ?_))
  refine L.binI rfl rfl (remI _ n m hm) rfl ?_
  repeat (first | refine Sp.seq ?_ | refine C.region ?_ | refine C.regionD (by kernel_rfl) ?_ | refine L.nil ?_ | refine L.nilD (by kernel_rfl) ?_ | (with_reducible refine C.next ?_) | refine Sp.block ?_ | refine Sp.skip ?_ | refine Sp.exit ?_ | (with_reducible refine C.bNormal ?_) | (with_reducible refine C.xSeq ?_) | (with_reducible refine C.xHit ?_) | (with_reducible refine C.xMiss rfl ?_) | (first
  | refine L.move rfl rfl ?_
  | refine L.assign rfl rfl ?_
  | refine L.bv rfl rfl rfl rfl ?_
  | refine L.shiftB rfl rfl rfl rfl ?_
  | refine L.shiftN rfl rfl rfl rfl ?_
  | refine L.bvCmp rfl rfl rfl rfl ?_
  | refine L.cmpN rfl rfl rfl rfl ?_
  | refine L.addN rfl rfl (by omega) rfl ?_
  | refine L.mulN rfl rfl (by omega) rfl ?_
  | refine L.subN rfl rfl (by omega) (by omega) rfl ?_
  | refine L.remN rfl rfl (by omega) rfl ?_
  | refine L.quoN rfl rfl (by omega) (by omega) rfl ?_
  | refine L.quoB rfl rfl (by decide) rfl ?_
  | refine L.not rfl rfl ?_
  | refine L.convB rfl rfl ?_
  | refine L.convN rfl rfl ?_
  | refine L.extract rfl rfl rfl rfl ?_
  | refine L.atA0 rfl rfl (by omega) rfl ?_
  | refine L.atA rfl rfl (by omega) rfl ?_
  | refine L.atA0s rfl rfl (by omega) rfl ?_
  | refine L.atS0 rfl rfl (by omega) rfl ?_
  | refine L.atS rfl rfl (by omega) rfl ?_
  | refine L.atS0s rfl rfl (by omega) rfl ?_
  | refine L.len rfl rfl ?_
  | refine L.lenNil rfl rfl ?_
  | refine L.slLo rfl rfl (by omega) rfl rfl ?_
  | refine L.slBoth rfl rfl rfl (by omega) (by omega) (by omega) rfl rfl ?_
  | refine L.slHi rfl rfl (by omega) rfl rfl ?_
  | refine L.slAll rfl rfl rfl ?_
  | refine L.indexW rfl rfl (by omega) (by omega) rfl ?_
  | refine L.loadW rfl rfl (by first | omega | (simp only [List.length_set]; omega)) rfl ?_
  | refine L.loadArr rfl rfl (by assumption) rfl ?_
  | refine L.loadL rfl rfl rfl rfl ?_
  | refine L.load rfl rfl rfl rfl ?_
  | refine L.boxA rfl rfl rfl ?_
  | refine L.box1 rfl rfl rfl rfl ?_
  | refine L.alloc rfl rfl ?_
  | refine L.storeW rfl rfl rfl (by first | omega | (simp only [List.length_set]; omega)) ?_
  | refine L.store rfl rfl rfl rfl (by omega) ?_
  | refine L.storeArr rfl rfl rfl (by first | assumption | rfl) (by first | assumption | rfl) ?_
  | refine L.storeA rfl rfl rfl rfl rfl ?_
  | refine L.pick rfl rfl rfl ?_
  | refine L.minmax rfl rfl rfl rfl ?_
  | refine L.eqArr rfl rfl (by first | assumption | rfl) (by first | assumption | rfl) rfl rfl ?_
  | refine L.str rfl rfl (by omega) rfl ?_
  | refine L.strNil rfl rfl ?_
  | refine L.cmpS rfl rfl rfl rfl ?_
  | refine L.make rfl rfl (by omega) (by omega) (by omega) rfl rfl ?_
  | refine L.bs1 rfl rfl rfl ?_
  | refine L.bs0 rfl rfl ?_
  | refine L.met rfl rfl rfl ?_
  | refine L.loadG rfl rfl (by kernel_rfl) rfl ?_))
  refine L.binC (r := decide (n.tmod m < 0)) rfl rfl (by simp [binOp, Op.intCmp]) rfl ?_
  repeat (first | refine Sp.seq ?_ | refine C.region ?_ | refine C.regionD (by kernel_rfl) ?_ | refine L.nil ?_ | refine L.nilD (by kernel_rfl) ?_ | (with_reducible refine C.next ?_) | refine Sp.block ?_ | refine Sp.skip ?_ | refine Sp.exit ?_ | (with_reducible refine C.bNormal ?_) | (with_reducible refine C.xSeq ?_) | (with_reducible refine C.xHit ?_) | (with_reducible refine C.xMiss rfl ?_) | (first
  | refine L.move rfl rfl ?_
  | refine L.assign rfl rfl ?_
  | refine L.bv rfl rfl rfl rfl ?_
  | refine L.shiftB rfl rfl rfl rfl ?_
  | refine L.shiftN rfl rfl rfl rfl ?_
  | refine L.bvCmp rfl rfl rfl rfl ?_
  | refine L.cmpN rfl rfl rfl rfl ?_
  | refine L.addN rfl rfl (by omega) rfl ?_
  | refine L.mulN rfl rfl (by omega) rfl ?_
  | refine L.subN rfl rfl (by omega) (by omega) rfl ?_
  | refine L.remN rfl rfl (by omega) rfl ?_
  | refine L.quoN rfl rfl (by omega) (by omega) rfl ?_
  | refine L.quoB rfl rfl (by decide) rfl ?_
  | refine L.not rfl rfl ?_
  | refine L.convB rfl rfl ?_
  | refine L.convN rfl rfl ?_
  | refine L.extract rfl rfl rfl rfl ?_
  | refine L.atA0 rfl rfl (by omega) rfl ?_
  | refine L.atA rfl rfl (by omega) rfl ?_
  | refine L.atA0s rfl rfl (by omega) rfl ?_
  | refine L.atS0 rfl rfl (by omega) rfl ?_
  | refine L.atS rfl rfl (by omega) rfl ?_
  | refine L.atS0s rfl rfl (by omega) rfl ?_
  | refine L.len rfl rfl ?_
  | refine L.lenNil rfl rfl ?_
  | refine L.slLo rfl rfl (by omega) rfl rfl ?_
  | refine L.slBoth rfl rfl rfl (by omega) (by omega) (by omega) rfl rfl ?_
  | refine L.slHi rfl rfl (by omega) rfl rfl ?_
  | refine L.slAll rfl rfl rfl ?_
  | refine L.indexW rfl rfl (by omega) (by omega) rfl ?_
  | refine L.loadW rfl rfl (by first | omega | (simp only [List.length_set]; omega)) rfl ?_
  | refine L.loadArr rfl rfl (by assumption) rfl ?_
  | refine L.loadL rfl rfl rfl rfl ?_
  | refine L.load rfl rfl rfl rfl ?_
  | refine L.boxA rfl rfl rfl ?_
  | refine L.box1 rfl rfl rfl rfl ?_
  | refine L.alloc rfl rfl ?_
  | refine L.storeW rfl rfl rfl (by first | omega | (simp only [List.length_set]; omega)) ?_
  | refine L.store rfl rfl rfl rfl (by omega) ?_
  | refine L.storeArr rfl rfl rfl (by first | assumption | rfl) (by first | assumption | rfl) ?_
  | refine L.storeA rfl rfl rfl rfl rfl ?_
  | refine L.pick rfl rfl rfl ?_
  | refine L.minmax rfl rfl rfl rfl ?_
  | refine L.eqArr rfl rfl (by first | assumption | rfl) (by first | assumption | rfl) rfl rfl ?_
  | refine L.str rfl rfl (by omega) rfl ?_
  | refine L.strNil rfl rfl ?_
  | refine L.cmpS rfl rfl rfl rfl ?_
  | refine L.make rfl rfl (by omega) (by omega) (by omega) rfl rfl ?_
  | refine L.bs1 rfl rfl rfl ?_
  | refine L.bs0 rfl rfl ?_
  | refine L.met rfl rfl rfl ?_
  | refine L.loadG rfl rfl (by kernel_rfl) rfl ?_))
  by_cases hneg : n.tmod m < 0
  · refine C.condT rfl (decide_eq_true hneg) ?_
    repeat (first | refine Sp.seq ?_ | refine C.region ?_ | refine C.regionD (by kernel_rfl) ?_ | refine L.nil ?_ | refine L.nilD (by kernel_rfl) ?_ | (with_reducible refine C.next ?_) | refine Sp.block ?_ | refine Sp.skip ?_ | refine Sp.exit ?_ | (with_reducible refine C.bNormal ?_) | (with_reducible refine C.xSeq ?_) | (with_reducible refine C.xHit ?_) | (with_reducible refine C.xMiss rfl ?_) | (first
  | refine L.move rfl rfl ?_
  | refine L.assign rfl rfl ?_
  | refine L.bv rfl rfl rfl rfl ?_
  | refine L.shiftB rfl rfl rfl rfl ?_
  | refine L.shiftN rfl rfl rfl rfl ?_
  | refine L.bvCmp rfl rfl rfl rfl ?_
  | refine L.cmpN rfl rfl rfl rfl ?_
  | refine L.addN rfl rfl (by omega) rfl ?_
  | refine L.mulN rfl rfl (by omega) rfl ?_
  | refine L.subN rfl rfl (by omega) (by omega) rfl ?_
  | refine L.remN rfl rfl (by omega) rfl ?_
  | refine L.quoN rfl rfl (by omega) (by omega) rfl ?_
  | refine L.quoB rfl rfl (by decide) rfl ?_
  | refine L.not rfl rfl ?_
  | refine L.convB rfl rfl ?_
  | refine L.convN rfl rfl ?_
  | refine L.extract rfl rfl rfl rfl ?_
  | refine L.atA0 rfl rfl (by omega) rfl ?_
  | refine L.atA rfl rfl (by omega) rfl ?_
  | refine L.atA0s rfl rfl (by omega) rfl ?_
  | refine L.atS0 rfl rfl (by omega) rfl ?_
  | refine L.atS rfl rfl (by omega) rfl ?_
  | refine L.atS0s rfl rfl (by omega) rfl ?_
  | refine L.len rfl rfl ?_
  | refine L.lenNil rfl rfl ?_
  | refine L.slLo rfl rfl (by omega) rfl rfl ?_
  | refine L.slBoth rfl rfl rfl (by omega) (by omega) (by omega) rfl rfl ?_
  | refine L.slHi rfl rfl (by omega) rfl rfl ?_
  | refine L.slAll rfl rfl rfl ?_
  | refine L.indexW rfl rfl (by omega) (by omega) rfl ?_
  | refine L.loadW rfl rfl (by first | omega | (simp only [List.length_set]; omega)) rfl ?_
  | refine L.loadArr rfl rfl (by assumption) rfl ?_
  | refine L.loadL rfl rfl rfl rfl ?_
  | refine L.load rfl rfl rfl rfl ?_
  | refine L.boxA rfl rfl rfl ?_
  | refine L.box1 rfl rfl rfl rfl ?_
  | refine L.alloc rfl rfl ?_
  | refine L.storeW rfl rfl rfl (by first | omega | (simp only [List.length_set]; omega)) ?_
  | refine L.store rfl rfl rfl rfl (by omega) ?_
  | refine L.storeArr rfl rfl rfl (by first | assumption | rfl) (by first | assumption | rfl) ?_
  | refine L.storeA rfl rfl rfl rfl rfl ?_
  | refine L.pick rfl rfl rfl ?_
  | refine L.minmax rfl rfl rfl rfl ?_
  | refine L.eqArr rfl rfl (by first | assumption | rfl) (by first | assumption | rfl) rfl rfl ?_
  | refine L.str rfl rfl (by omega) rfl ?_
  | refine L.strNil rfl rfl ?_
  | refine L.cmpS rfl rfl rfl rfl ?_
  | refine L.make rfl rfl (by omega) (by omega) (by omega) rfl rfl ?_
  | refine L.bs1 rfl rfl rfl ?_
  | refine L.bs0 rfl rfl ?_
  | refine L.met rfl rfl rfl ?_
  | refine L.loadG rfl rfl (by kernel_rfl) rfl ?_))
    refine L.binI (k2 := .i64) (r := ((pickN n m : Nat) : Int)) rfl rfl ?_ rfl ?_
    · have : n.tmod m + m = ((pickN n m : Nat) : Int) := by omega
      rw [← this]
      have hw := wrapN (x := n.tmod m + m) (by omega) (by omega)
      simp [binOp, Op.intArith, hw]
    repeat (first | refine Sp.seq ?_ | refine C.region ?_ | refine C.regionD (by kernel_rfl) ?_ | refine L.nil ?_ | refine L.nilD (by kernel_rfl) ?_ | (with_reducible refine C.next ?_) | refine Sp.block ?_ | refine Sp.skip ?_ | refine Sp.exit ?_ | (with_reducible refine C.bNormal ?_) | (with_reducible refine C.xSeq ?_) | (with_reducible refine C.xHit ?_) | (with_reducible refine C.xMiss rfl ?_) | (first
  | refine L.move rfl rfl ?_
  | refine L.assign rfl rfl ?_
  | refine L.bv rfl rfl rfl rfl ?_
  | refine L.shiftB rfl rfl rfl rfl ?_
  | refine L.shiftN rfl rfl rfl rfl ?_
  | refine L.bvCmp rfl rfl rfl rfl ?_
  | refine L.cmpN rfl rfl rfl rfl ?_
  | refine L.addN rfl rfl (by omega) rfl ?_
  | refine L.mulN rfl rfl (by omega) rfl ?_
  | refine L.subN rfl rfl (by omega) (by omega) rfl ?_
  | refine L.remN rfl rfl (by omega) rfl ?_
  | refine L.quoN rfl rfl (by omega) (by omega) rfl ?_
  | refine L.quoB rfl rfl (by decide) rfl ?_
  | refine L.not rfl rfl ?_
  | refine L.convB rfl rfl ?_
  | refine L.convN rfl rfl ?_
  | refine L.extract rfl rfl rfl rfl ?_
  | refine L.atA0 rfl rfl (by omega) rfl ?_
  | refine L.atA rfl rfl (by omega) rfl ?_
  | refine L.atA0s rfl rfl (by omega) rfl ?_
  | refine L.atS0 rfl rfl (by omega) rfl ?_
  | refine L.atS rfl rfl (by omega) rfl ?_
  | refine L.atS0s rfl rfl (by omega) rfl ?_
  | refine L.len rfl rfl ?_
  | refine L.lenNil rfl rfl ?_
  | refine L.slLo rfl rfl (by omega) rfl rfl ?_
  | refine L.slBoth rfl rfl rfl (by omega) (by omega) (by omega) rfl rfl ?_
  | refine L.slHi rfl rfl (by omega) rfl rfl ?_
  | refine L.slAll rfl rfl rfl ?_
  | refine L.indexW rfl rfl (by omega) (by omega) rfl ?_
  | refine L.loadW rfl rfl (by first | omega | (simp only [List.length_set]; omega)) rfl ?_
  | refine L.loadArr rfl rfl (by assumption) rfl ?_
  | refine L.loadL rfl rfl rfl rfl ?_
  | refine L.load rfl rfl rfl rfl ?_
  | refine L.boxA rfl rfl rfl ?_
  | refine L.box1 rfl rfl rfl rfl ?_
  | refine L.alloc rfl rfl ?_
  | refine L.storeW rfl rfl rfl (by first | omega | (simp only [List.length_set]; omega)) ?_
  | refine L.store rfl rfl rfl rfl (by omega) ?_
  | refine L.storeArr rfl rfl rfl (by first | assumption | rfl) (by first | assumption | rfl) ?_
  | refine L.storeA rfl rfl rfl rfl rfl ?_
  | refine L.pick rfl rfl rfl ?_
  | refine L.minmax rfl rfl rfl rfl ?_
  | refine L.eqArr rfl rfl (by first | assumption | rfl) (by first | assumption | rfl) rfl rfl ?_
  | refine L.str rfl rfl (by omega) rfl ?_
  | refine L.strNil rfl rfl ?_
  | refine L.cmpS rfl rfl rfl rfl ?_
  | refine L.make rfl rfl (by omega) (by omega) (by omega) rfl rfl ?_
  | refine L.bs1 rfl rfl rfl ?_
  | refine L.bs0 rfl rfl ?_
  | refine L.met rfl rfl rfl ?_
  | refine L.loadG rfl rfl (by kernel_rfl) rfl ?_))
    exact Sp.ret (retK.t1 [] rfl rfl (Less.nil _) ⟨rfl, rfl⟩)
  · refine C.condF rfl (decide_eq_false hneg) ?_
    have : n.tmod m = ((pickN n m : Nat) : Int) := by omega
    rw [this]
    repeat (first | refine Sp.seq ?_ | refine C.region ?_ | refine C.regionD (by kernel_rfl) ?_ | refine L.nil ?_ | refine L.nilD (by kernel_rfl) ?_ | (with_reducible refine C.next ?_) | refine Sp.block ?_ | refine Sp.skip ?_ | refine Sp.exit ?_ | (with_reducible refine C.bNormal ?_) | (with_reducible refine C.xSeq ?_) | (with_reducible refine C.xHit ?_) | (with_reducible refine C.xMiss rfl ?_) | (first
  | refine L.move rfl rfl ?_
  | refine L.assign rfl rfl ?_
  | refine L.bv rfl rfl rfl rfl ?_
  | refine L.shiftB rfl rfl rfl rfl ?_
  | refine L.shiftN rfl rfl rfl rfl ?_
  | refine L.bvCmp rfl rfl rfl rfl ?_
  | refine L.cmpN rfl rfl rfl rfl ?_
  | refine L.addN rfl rfl (by omega) rfl ?_
  | refine L.mulN rfl rfl (by omega) rfl ?_
  | refine L.subN rfl rfl (by omega) (by omega) rfl ?_
  | refine L.remN rfl rfl (by omega) rfl ?_
  | refine L.quoN rfl rfl (by omega) (by omega) rfl ?_
  | refine L.quoB rfl rfl (by decide) rfl ?_
  | refine L.not rfl rfl ?_
  | refine L.convB rfl rfl ?_
  | refine L.convN rfl rfl ?_
  | refine L.extract rfl rfl rfl rfl ?_
  | refine L.atA0 rfl rfl (by omega) rfl ?_
  | refine L.atA rfl rfl (by omega) rfl ?_
  | refine L.atA0s rfl rfl (by omega) rfl ?_
  | refine L.atS0 rfl rfl (by omega) rfl ?_
  | refine L.atS rfl rfl (by omega) rfl ?_
  | refine L.atS0s rfl rfl (by omega) rfl ?_
  | refine L.len rfl rfl ?_
  | refine L.lenNil rfl rfl ?_
  | refine L.slLo rfl rfl (by omega) rfl rfl ?_
  | refine L.slBoth rfl rfl rfl (by omega) (by omega) (by omega) rfl rfl ?_
  | refine L.slHi rfl rfl (by omega) rfl rfl ?_
  | refine L.slAll rfl rfl rfl ?_
  | refine L.indexW rfl rfl (by omega) (by omega) rfl ?_
  | refine L.loadW rfl rfl (by first | omega | (simp only [List.length_set]; omega)) rfl ?_
  | refine L.loadArr rfl rfl (by assumption) rfl ?_
  | refine L.loadL rfl rfl rfl rfl ?_
  | refine L.load rfl rfl rfl rfl ?_
  | refine L.boxA rfl rfl rfl ?_
  | refine L.box1 rfl rfl rfl rfl ?_
  | refine L.alloc rfl rfl ?_
  | refine L.storeW rfl rfl rfl (by first | omega | (simp only [List.length_set]; omega)) ?_
  | refine L.store rfl rfl rfl rfl (by omega) ?_
  | refine L.storeArr rfl rfl rfl (by first | assumption | rfl) (by first | assumption | rfl) ?_
  | refine L.storeA rfl rfl rfl rfl rfl ?_
  | refine L.pick rfl rfl rfl ?_
  | refine L.minmax rfl rfl rfl rfl ?_
  | refine L.eqArr rfl rfl (by first | assumption | rfl) (by first | assumption | rfl) rfl rfl ?_
  | refine L.str rfl rfl (by omega) rfl ?_
  | refine L.strNil rfl rfl ?_
  | refine L.cmpS rfl rfl rfl rfl ?_
  | refine L.make rfl rfl (by omega) (by omega) (by omega) rfl rfl ?_
  | refine L.bs1 rfl rfl rfl ?_
  | refine L.bs0 rfl rfl ?_
  | refine L.met rfl rfl rfl ?_
  | refine L.loadG rfl rfl (by kernel_rfl) rfl ?_))
    exact Sp.ret (retK.t1 [] rfl rfl (Less.nil _) ⟨rfl, rfl⟩)
theorem own_fn (b : List (BitVec 8)) (n cp : Nat) (hn : n ≤ b.length) (hs : n < 1099511627776) : Fc Tryd.prog 18 1 [.slice (some ⟨0, 0, none⟩) n cp] (roM 0 [⟨8, .u8, b⟩]) (fun v m => v = .slice (some ⟨1, 0, none⟩) n (capU + 1) ∧ m = [(1, some (.cells (arr .u8 (b.take n)) true true))]) := by
  by_cases h0 : n = 0
  · subst h0
    refine Fc.enter (N := 6) (fn := Tryd.f18) (rs := _) Tryd.func18 rfl Tryd.results18 rfl ?_
    repeat (first | refine Sp.seq ?_ | refine C.region ?_ | refine C.regionD (by kernel_rfl) ?_ | refine L.nil ?_ | refine L.nilD (by kernel_rfl) ?_ | (with_reducible refine C.next ?_) | refine Sp.block ?_ | refine Sp.skip ?_ | refine Sp.exit ?_ | (with_reducible refine C.bNormal ?_) | (with_reducible refine C.xSeq ?_) | (with_reducible refine C.xHit ?_) | (with_reducible refine C.xMiss rfl ?_) | (first
  | refine L.move rfl rfl ?_
  | refine L.assign rfl rfl ?_
  | refine L.bv rfl rfl rfl rfl ?_
  | refine L.shiftB rfl rfl rfl rfl ?_
  | refine L.shiftN rfl rfl rfl rfl ?_
  | refine L.bvCmp rfl rfl rfl rfl ?_
  | refine L.cmpN rfl rfl rfl rfl ?_
  | refine L.addN rfl rfl (by omega) rfl ?_
  | refine L.mulN rfl rfl (by omega) rfl ?_
  | refine L.subN rfl rfl (by omega) (by omega) rfl ?_
  | refine L.remN rfl rfl (by omega) rfl ?_
  | refine L.quoN rfl rfl (by omega) (by omega) rfl ?_
  | refine L.quoB rfl rfl (by decide) rfl ?_
  | refine L.not rfl rfl ?_
  | refine L.convB rfl rfl ?_
  | refine L.convN rfl rfl ?_
  | refine L.extract rfl rfl rfl rfl ?_
  | refine L.atA0 rfl rfl (by omega) rfl ?_
  | refine L.atA rfl rfl (by omega) rfl ?_
  | refine L.atA0s rfl rfl (by omega) rfl ?_
  | refine L.atS0 rfl rfl (by omega) rfl ?_
  | refine L.atS rfl rfl (by omega) rfl ?_
  | refine L.atS0s rfl rfl (by omega) rfl ?_
  | refine L.len rfl rfl ?_
  | refine L.lenNil rfl rfl ?_
  | refine L.slLo rfl rfl (by omega) rfl rfl ?_
  | refine L.slBoth rfl rfl rfl (by omega) (by omega) (by omega) rfl rfl ?_
  | refine L.slHi rfl rfl (by omega) rfl rfl ?_
  | refine L.slAll rfl rfl rfl ?_
  | refine L.indexW rfl rfl (by omega) (by omega) rfl ?_
  | refine L.loadW rfl rfl (by first | omega | (simp only [List.length_set]; omega)) rfl ?_
  | refine L.loadArr rfl rfl (by assumption) rfl ?_
  | refine L.loadL rfl rfl rfl rfl ?_
  | refine L.load rfl rfl rfl rfl ?_
  | refine L.boxA rfl rfl rfl ?_
  | refine L.box1 rfl rfl rfl rfl ?_
  | refine L.alloc rfl rfl ?_
  | refine L.storeW rfl rfl rfl (by first | omega | (simp only [List.length_set]; omega)) ?_
  | refine L.store rfl rfl rfl rfl (by omega) ?_
  | refine L.storeArr rfl rfl rfl (by first | assumption | rfl) (by first | assumption | rfl) ?_
  | refine L.storeA rfl rfl rfl rfl rfl ?_
  | refine L.pick rfl rfl rfl ?_
  | refine L.minmax rfl rfl rfl rfl ?_
  | refine L.eqArr rfl rfl (by first | assumption | rfl) (by first | assumption | rfl) rfl rfl ?_
  | refine L.str rfl rfl (by omega) rfl ?_
  | refine L.strNil rfl rfl ?_
  | refine L.cmpS rfl rfl rfl rfl ?_
  | refine L.make rfl rfl (by omega) (by omega) (by omega) rfl rfl ?_
  | refine L.bs1 rfl rfl rfl ?_
  | refine L.bs0 rfl rfl ?_
  | refine L.met rfl rfl rfl ?_
  | refine L.loadG rfl rfl (by kernel_rfl) rfl ?_))
    refine L.appZ rfl (by decide) (by omega) (.inr ⟨_, _, _, rfl⟩) rfl ?_
    repeat (first | refine Sp.seq ?_ | refine C.region ?_ | refine C.regionD (by kernel_rfl) ?_ | refine L.nil ?_ | refine L.nilD (by kernel_rfl) ?_ | (with_reducible refine C.next ?_) | refine Sp.block ?_ | refine Sp.skip ?_ | refine Sp.exit ?_ | (with_reducible refine C.bNormal ?_) | (with_reducible refine C.xSeq ?_) | (with_reducible refine C.xHit ?_) | (with_reducible refine C.xMiss rfl ?_) | (first
  | refine L.move rfl rfl ?_
  | refine L.assign rfl rfl ?_
  | refine L.bv rfl rfl rfl rfl ?_
  | refine L.shiftB rfl rfl rfl rfl ?_
  | refine L.shiftN rfl rfl rfl rfl ?_
  | refine L.bvCmp rfl rfl rfl rfl ?_
  | refine L.cmpN rfl rfl rfl rfl ?_
  | refine L.addN rfl rfl (by omega) rfl ?_
  | refine L.mulN rfl rfl (by omega) rfl ?_
  | refine L.subN rfl rfl (by omega) (by omega) rfl ?_
  | refine L.remN rfl rfl (by omega) rfl ?_
  | refine L.quoN rfl rfl (by omega) (by omega) rfl ?_
  | refine L.quoB rfl rfl (by decide) rfl ?_
  | refine L.not rfl rfl ?_
  | refine L.convB rfl rfl ?_
  | refine L.convN rfl rfl ?_
  | refine L.extract rfl rfl rfl rfl ?_
  | refine L.atA0 rfl rfl (by omega) rfl ?_
  | refine L.atA rfl rfl (by omega) rfl ?_
  | refine L.atA0s rfl rfl (by omega) rfl ?_
  | refine L.atS0 rfl rfl (by omega) rfl ?_
  | refine L.atS rfl rfl (by omega) rfl ?_
  | refine L.atS0s rfl rfl (by omega) rfl ?_
  | refine L.len rfl rfl ?_
  | refine L.lenNil rfl rfl ?_
  | refine L.slLo rfl rfl (by omega) rfl rfl ?_
  | refine L.slBoth rfl rfl rfl (by omega) (by omega) (by omega) rfl rfl ?_
  | refine L.slHi rfl rfl (by omega) rfl rfl ?_
  | refine L.slAll rfl rfl rfl ?_
  | refine L.indexW rfl rfl (by omega) (by omega) rfl ?_
  | refine L.loadW rfl rfl (by first | omega | (simp only [List.length_set]; omega)) rfl ?_
  | refine L.loadArr rfl rfl (by assumption) rfl ?_
  | refine L.loadL rfl rfl rfl rfl ?_
  | refine L.load rfl rfl rfl rfl ?_
  | refine L.boxA rfl rfl rfl ?_
  | refine L.box1 rfl rfl rfl rfl ?_
  | refine L.alloc rfl rfl ?_
  | refine L.storeW rfl rfl rfl (by first | omega | (simp only [List.length_set]; omega)) ?_
  | refine L.store rfl rfl rfl rfl (by omega) ?_
  | refine L.storeArr rfl rfl rfl (by first | assumption | rfl) (by first | assumption | rfl) ?_
  | refine L.storeA rfl rfl rfl rfl rfl ?_
  | refine L.pick rfl rfl rfl ?_
  | refine L.minmax rfl rfl rfl rfl ?_
  | refine L.eqArr rfl rfl (by first | assumption | rfl) (by first | assumption | rfl) rfl rfl ?_
  | refine L.str rfl rfl (by omega) rfl ?_
  | refine L.strNil rfl rfl ?_
  | refine L.cmpS rfl rfl rfl rfl ?_
  | refine L.make rfl rfl (by omega) (by omega) (by omega) rfl rfl ?_
  | refine L.bs1 rfl rfl rfl ?_
  | refine L.bs0 rfl rfl ?_
  | refine L.met rfl rfl rfl ?_
  | refine L.loadG rfl rfl (by kernel_rfl) rfl ?_))
    refine Sp.retell (t := 2) (n := 1) (cp := 0) (sz := 1) (C := #[]) (rw := true) rfl rfl rfl (by omega) (by decide) ?_
    rw [show (#[] : Array Value) = arr .u8 (b.take 0) by simp [arr]]
    exact Sp.ret (retK.t1 [(1, some (.cells (arr .u8 (b.take 0)) true true))] rfl rfl (Less.cons rfl (Less.nil _)) ⟨rfl, rfl⟩)
  · refine Fc.enter (N := 6) (fn := Tryd.f18) (rs := _) Tryd.func18 rfl Tryd.results18 rfl ?_
    repeat (first | refine Sp.seq ?_ | refine C.region ?_ | refine C.regionD (by kernel_rfl) ?_ | refine L.nil ?_ | refine L.nilD (by kernel_rfl) ?_ | (with_reducible refine C.next ?_) | refine Sp.block ?_ | refine Sp.skip ?_ | refine Sp.exit ?_ | (with_reducible refine C.bNormal ?_) | (with_reducible refine C.xSeq ?_) | (with_reducible refine C.xHit ?_) | (with_reducible refine C.xMiss rfl ?_) | (first
  | refine L.move rfl rfl ?_
  | refine L.assign rfl rfl ?_
  | refine L.bv rfl rfl rfl rfl ?_
  | refine L.shiftB rfl rfl rfl rfl ?_
  | refine L.shiftN rfl rfl rfl rfl ?_
  | refine L.bvCmp rfl rfl rfl rfl ?_
  | refine L.cmpN rfl rfl rfl rfl ?_
  | refine L.addN rfl rfl (by omega) rfl ?_
  | refine L.mulN rfl rfl (by omega) rfl ?_
  | refine L.subN rfl rfl (by omega) (by omega) rfl ?_
  | refine L.remN rfl rfl (by omega) rfl ?_
  | refine L.quoN rfl rfl (by omega) (by omega) rfl ?_
  | refine L.quoB rfl rfl (by decide) rfl ?_
  | refine L.not rfl rfl ?_
  | refine L.convB rfl rfl ?_
  | refine L.convN rfl rfl ?_
  | refine L.extract rfl rfl rfl rfl ?_
  | refine L.atA0 rfl rfl (by omega) rfl ?_
  | refine L.atA rfl rfl (by omega) rfl ?_
  | refine L.atA0s rfl rfl (by omega) rfl ?_
  | refine L.atS0 rfl rfl (by omega) rfl ?_
  | refine L.atS rfl rfl (by omega) rfl ?_
  | refine L.atS0s rfl rfl (by omega) rfl ?_
  | refine L.len rfl rfl ?_
  | refine L.lenNil rfl rfl ?_
  | refine L.slLo rfl rfl (by omega) rfl rfl ?_
  | refine L.slBoth rfl rfl rfl (by omega) (by omega) (by omega) rfl rfl ?_
  | refine L.slHi rfl rfl (by omega) rfl rfl ?_
  | refine L.slAll rfl rfl rfl ?_
  | refine L.indexW rfl rfl (by omega) (by omega) rfl ?_
  | refine L.loadW rfl rfl (by first | omega | (simp only [List.length_set]; omega)) rfl ?_
  | refine L.loadArr rfl rfl (by assumption) rfl ?_
  | refine L.loadL rfl rfl rfl rfl ?_
  | refine L.load rfl rfl rfl rfl ?_
  | refine L.boxA rfl rfl rfl ?_
  | refine L.box1 rfl rfl rfl rfl ?_
  | refine L.alloc rfl rfl ?_
  | refine L.storeW rfl rfl rfl (by first | omega | (simp only [List.length_set]; omega)) ?_
  | refine L.store rfl rfl rfl rfl (by omega) ?_
  | refine L.storeArr rfl rfl rfl (by first | assumption | rfl) (by first | assumption | rfl) ?_
  | refine L.storeA rfl rfl rfl rfl rfl ?_
  | refine L.pick rfl rfl rfl ?_
  | refine L.minmax rfl rfl rfl rfl ?_
  | refine L.eqArr rfl rfl (by first | assumption | rfl) (by first | assumption | rfl) rfl rfl ?_
  | refine L.str rfl rfl (by omega) rfl ?_
  | refine L.strNil rfl rfl ?_
  | refine L.cmpS rfl rfl rfl rfl ?_
  | refine L.make rfl rfl (by omega) (by omega) (by omega) rfl rfl ?_
  | refine L.bs1 rfl rfl rfl ?_
  | refine L.bs0 rfl rfl ?_
  | refine L.met rfl rfl rfl ?_
  | refine L.loadG rfl rfl (by kernel_rfl) rfl ?_))
    refine L.appE rfl rfl rfl rfl (by omega) rfl (by omega) (by omega) (by omega) rfl rfl ?_
    repeat (first | refine Sp.seq ?_ | refine C.region ?_ | refine C.regionD (by kernel_rfl) ?_ | refine L.nil ?_ | refine L.nilD (by kernel_rfl) ?_ | (with_reducible refine C.next ?_) | refine Sp.block ?_ | refine Sp.skip ?_ | refine Sp.exit ?_ | (with_reducible refine C.bNormal ?_) | (with_reducible refine C.xSeq ?_) | (with_reducible refine C.xHit ?_) | (with_reducible refine C.xMiss rfl ?_) | (first
  | refine L.move rfl rfl ?_
  | refine L.assign rfl rfl ?_
  | refine L.bv rfl rfl rfl rfl ?_
  | refine L.shiftB rfl rfl rfl rfl ?_
  | refine L.shiftN rfl rfl rfl rfl ?_
  | refine L.bvCmp rfl rfl rfl rfl ?_
  | refine L.cmpN rfl rfl rfl rfl ?_
  | refine L.addN rfl rfl (by omega) rfl ?_
  | refine L.mulN rfl rfl (by omega) rfl ?_
  | refine L.subN rfl rfl (by omega) (by omega) rfl ?_
  | refine L.remN rfl rfl (by omega) rfl ?_
  | refine L.quoN rfl rfl (by omega) (by omega) rfl ?_
  | refine L.quoB rfl rfl (by decide) rfl ?_
  | refine L.not rfl rfl ?_
  | refine L.convB rfl rfl ?_
  | refine L.convN rfl rfl ?_
  | refine L.extract rfl rfl rfl rfl ?_
  | refine L.atA0 rfl rfl (by omega) rfl ?_
  | refine L.atA rfl rfl (by omega) rfl ?_
  | refine L.atA0s rfl rfl (by omega) rfl ?_
  | refine L.atS0 rfl rfl (by omega) rfl ?_
  | refine L.atS rfl rfl (by omega) rfl ?_
  | refine L.atS0s rfl rfl (by omega) rfl ?_
  | refine L.len rfl rfl ?_
  | refine L.lenNil rfl rfl ?_
  | refine L.slLo rfl rfl (by omega) rfl rfl ?_
  | refine L.slBoth rfl rfl rfl (by omega) (by omega) (by omega) rfl rfl ?_
  | refine L.slHi rfl rfl (by omega) rfl rfl ?_
  | refine L.slAll rfl rfl rfl ?_
  | refine L.indexW rfl rfl (by omega) (by omega) rfl ?_
  | refine L.loadW rfl rfl (by first | omega | (simp only [List.length_set]; omega)) rfl ?_
  | refine L.loadArr rfl rfl (by assumption) rfl ?_
  | refine L.loadL rfl rfl rfl rfl ?_
  | refine L.load rfl rfl rfl rfl ?_
  | refine L.boxA rfl rfl rfl ?_
  | refine L.box1 rfl rfl rfl rfl ?_
  | refine L.alloc rfl rfl ?_
  | refine L.storeW rfl rfl rfl (by first | omega | (simp only [List.length_set]; omega)) ?_
  | refine L.store rfl rfl rfl rfl (by omega) ?_
  | refine L.storeArr rfl rfl rfl (by first | assumption | rfl) (by first | assumption | rfl) ?_
  | refine L.storeA rfl rfl rfl rfl rfl ?_
  | refine L.pick rfl rfl rfl ?_
  | refine L.minmax rfl rfl rfl rfl ?_
  | refine L.eqArr rfl rfl (by first | assumption | rfl) (by first | assumption | rfl) rfl rfl ?_
  | refine L.str rfl rfl (by omega) rfl ?_
  | refine L.strNil rfl rfl ?_
  | refine L.cmpS rfl rfl rfl rfl ?_
  | refine L.make rfl rfl (by omega) (by omega) (by omega) rfl rfl ?_
  | refine L.bs1 rfl rfl rfl ?_
  | refine L.bs0 rfl rfl ?_
  | refine L.met rfl rfl rfl ?_
  | refine L.loadG rfl rfl (by kernel_rfl) rfl ?_))
    refine Sp.weak ⟨2, [(2, .slice (some ⟨1, 0, none⟩) n (capU + 1))], [(1, some (.cells (arr .u8 (b.take n)) true true))], []⟩ (weak_ren [(1, 2)] rfl rfl rfl ?_ ?_) ?_
    · repeat (first | exact AllFR.nil | refine AllFR.pl rfl ?_ | refine AllFR.ptr rfl rfl rfl ?_ | refine AllFR.sl rfl rfl rfl ?_)
    · repeat (first | exact AllMR.nil | refine AllMR.arr rfl rfl rfl ?_)
    exact Sp.ret (retK.t1 [(1, some (.cells (arr .u8 (b.take n)) true true))] rfl rfl (Less.cons rfl (Less.nil _)) ⟨rfl, rfl⟩)
theorem own_nil (cp : Nat) : Fc Tryd.prog 18 0 [.slice none 0 cp] [] (fun v m => v = .slice (some ⟨0, 0, none⟩) 0 (capU + 1) ∧ m = [(0, some (.cells (arr .u8 ([] : List (BitVec 8))) true true))]) := by
  refine Fc.enter (N := 6) (fn := Tryd.f18) (rs := _) Tryd.func18 rfl Tryd.results18 rfl ?_
  repeat (first | refine Sp.seq ?_ | refine C.region ?_ | refine C.regionD (by kernel_rfl) ?_ | refine L.nil ?_ | refine L.nilD (by kernel_rfl) ?_ | (with_reducible refine C.next ?_) | refine Sp.block ?_ | refine Sp.skip ?_ | refine Sp.exit ?_ | (with_reducible refine C.bNormal ?_) | (with_reducible refine C.xSeq ?_) | (with_reducible refine C.xHit ?_) | (with_reducible refine C.xMiss rfl ?_) | (first
  | refine L.move rfl rfl ?_
  | refine L.assign rfl rfl ?_
  | refine L.bv rfl rfl rfl rfl ?_
  | refine L.shiftB rfl rfl rfl rfl ?_
  | refine L.shiftN rfl rfl rfl rfl ?_
  | refine L.bvCmp rfl rfl rfl rfl ?_
  | refine L.cmpN rfl rfl rfl rfl ?_
  | refine L.addN rfl rfl (by omega) rfl ?_
  | refine L.mulN rfl rfl (by omega) rfl ?_
  | refine L.subN rfl rfl (by omega) (by omega) rfl ?_
  | refine L.remN rfl rfl (by omega) rfl ?_
  | refine L.quoN rfl rfl (by omega) (by omega) rfl ?_
  | refine L.quoB rfl rfl (by decide) rfl ?_
  | refine L.not rfl rfl ?_
  | refine L.convB rfl rfl ?_
  | refine L.convN rfl rfl ?_
  | refine L.extract rfl rfl rfl rfl ?_
  | refine L.atA0 rfl rfl (by omega) rfl ?_
  | refine L.atA rfl rfl (by omega) rfl ?_
  | refine L.atA0s rfl rfl (by omega) rfl ?_
  | refine L.atS0 rfl rfl (by omega) rfl ?_
  | refine L.atS rfl rfl (by omega) rfl ?_
  | refine L.atS0s rfl rfl (by omega) rfl ?_
  | refine L.len rfl rfl ?_
  | refine L.lenNil rfl rfl ?_
  | refine L.slLo rfl rfl (by omega) rfl rfl ?_
  | refine L.slBoth rfl rfl rfl (by omega) (by omega) (by omega) rfl rfl ?_
  | refine L.slHi rfl rfl (by omega) rfl rfl ?_
  | refine L.slAll rfl rfl rfl ?_
  | refine L.indexW rfl rfl (by omega) (by omega) rfl ?_
  | refine L.loadW rfl rfl (by first | omega | (simp only [List.length_set]; omega)) rfl ?_
  | refine L.loadArr rfl rfl (by assumption) rfl ?_
  | refine L.loadL rfl rfl rfl rfl ?_
  | refine L.load rfl rfl rfl rfl ?_
  | refine L.boxA rfl rfl rfl ?_
  | refine L.box1 rfl rfl rfl rfl ?_
  | refine L.alloc rfl rfl ?_
  | refine L.storeW rfl rfl rfl (by first | omega | (simp only [List.length_set]; omega)) ?_
  | refine L.store rfl rfl rfl rfl (by omega) ?_
  | refine L.storeArr rfl rfl rfl (by first | assumption | rfl) (by first | assumption | rfl) ?_
  | refine L.storeA rfl rfl rfl rfl rfl ?_
  | refine L.pick rfl rfl rfl ?_
  | refine L.minmax rfl rfl rfl rfl ?_
  | refine L.eqArr rfl rfl (by first | assumption | rfl) (by first | assumption | rfl) rfl rfl ?_
  | refine L.str rfl rfl (by omega) rfl ?_
  | refine L.strNil rfl rfl ?_
  | refine L.cmpS rfl rfl rfl rfl ?_
  | refine L.make rfl rfl (by omega) (by omega) (by omega) rfl rfl ?_
  | refine L.bs1 rfl rfl rfl ?_
  | refine L.bs0 rfl rfl ?_
  | refine L.met rfl rfl rfl ?_
  | refine L.loadG rfl rfl (by kernel_rfl) rfl ?_))
  refine L.appZ rfl (by decide) (by omega) (.inl ⟨_, rfl⟩) rfl ?_
  repeat (first | refine Sp.seq ?_ | refine C.region ?_ | refine C.regionD (by kernel_rfl) ?_ | refine L.nil ?_ | refine L.nilD (by kernel_rfl) ?_ | (with_reducible refine C.next ?_) | refine Sp.block ?_ | refine Sp.skip ?_ | refine Sp.exit ?_ | (with_reducible refine C.bNormal ?_) | (with_reducible refine C.xSeq ?_) | (with_reducible refine C.xHit ?_) | (with_reducible refine C.xMiss rfl ?_) | (first
  | refine L.move rfl rfl ?_
  | refine L.assign rfl rfl ?_
  | refine L.bv rfl rfl rfl rfl ?_
  | refine L.shiftB rfl rfl rfl rfl ?_
  | refine L.shiftN rfl rfl rfl rfl ?_
  | refine L.bvCmp rfl rfl rfl rfl ?_
  | refine L.cmpN rfl rfl rfl rfl ?_
  | refine L.addN rfl rfl (by omega) rfl ?_
  | refine L.mulN rfl rfl (by omega) rfl ?_
  | refine L.subN rfl rfl (by omega) (by omega) rfl ?_
  | refine L.remN rfl rfl (by omega) rfl ?_
  | refine L.quoN rfl rfl (by omega) (by omega) rfl ?_
  | refine L.quoB rfl rfl (by decide) rfl ?_
  | refine L.not rfl rfl ?_
  | refine L.convB rfl rfl ?_
  | refine L.convN rfl rfl ?_
  | refine L.extract rfl rfl rfl rfl ?_
  | refine L.atA0 rfl rfl (by omega) rfl ?_
  | refine L.atA rfl rfl (by omega) rfl ?_
  | refine L.atA0s rfl rfl (by omega) rfl ?_
  | refine L.atS0 rfl rfl (by omega) rfl ?_
  | refine L.atS rfl rfl (by omega) rfl ?_
  | refine L.atS0s rfl rfl (by omega) rfl ?_
  | refine L.len rfl rfl ?_
  | refine L.lenNil rfl rfl ?_
  | refine L.slLo rfl rfl (by omega) rfl rfl ?_
  | refine L.slBoth rfl rfl rfl (by omega) (by omega) (by omega) rfl rfl ?_
  | refine L.slHi rfl rfl (by omega) rfl rfl ?_
  | refine L.slAll rfl rfl rfl ?_
  | refine L.indexW rfl rfl (by omega) (by omega) rfl ?_
  | refine L.loadW rfl rfl (by first | omega | (simp only [List.length_set]; omega)) rfl ?_
  | refine L.loadArr rfl rfl (by assumption) rfl ?_
  | refine L.loadL rfl rfl rfl rfl ?_
  | refine L.load rfl rfl rfl rfl ?_
  | refine L.boxA rfl rfl rfl ?_
  | refine L.box1 rfl rfl rfl rfl ?_
  | refine L.alloc rfl rfl ?_
  | refine L.storeW rfl rfl rfl (by first | omega | (simp only [List.length_set]; omega)) ?_
  | refine L.store rfl rfl rfl rfl (by omega) ?_
  | refine L.storeArr rfl rfl rfl (by first | assumption | rfl) (by first | assumption | rfl) ?_
  | refine L.storeA rfl rfl rfl rfl rfl ?_
  | refine L.pick rfl rfl rfl ?_
  | refine L.minmax rfl rfl rfl rfl ?_
  | refine L.eqArr rfl rfl (by first | assumption | rfl) (by first | assumption | rfl) rfl rfl ?_
  | refine L.str rfl rfl (by omega) rfl ?_
  | refine L.strNil rfl rfl ?_
  | refine L.cmpS rfl rfl rfl rfl ?_
  | refine L.make rfl rfl (by omega) (by omega) (by omega) rfl rfl ?_
  | refine L.bs1 rfl rfl rfl ?_
  | refine L.bs0 rfl rfl ?_
  | refine L.met rfl rfl rfl ?_
  | refine L.loadG rfl rfl (by kernel_rfl) rfl ?_))
  refine Sp.retell (t := 2) (n := 0) (cp := 0) (sz := 1) (C := #[]) (rw := true) rfl rfl rfl (by omega) (by decide) ?_
  rw [show (#[] : Array Value) = arr .u8 ([] : List (BitVec 8)) by simp [arr]]
  exact Sp.ret (retK.t1 [(0, some (.cells (arr .u8 ([] : List (BitVec 8))) true true))] rfl rfl (Less.cons rfl (Less.nil _)) ⟨rfl, rfl⟩)
end Go.Proofs.YtbfakdpnefhgkaaDoor
