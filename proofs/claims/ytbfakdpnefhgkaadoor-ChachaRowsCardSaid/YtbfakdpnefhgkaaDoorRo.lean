/-
  The walk of ChachaRows.
-/
import Derived.Test.YtbfakdpnefhgkaaDoorLv
import Derived.Test.YtbfakdpnefhgkaaDoorXo
import Derived.Test.YtbfakdpnefhgkaaDoorKt
import Derived.Test.YtbfakdpnefhgkaaDoorLa
set_option linter.unusedSimpArgs false
set_option linter.unusedVariables false
namespace Go.Proofs.YtbfakdpnefhgkaaDoor
open Sl Mem Bv
/-- The slice of what is wanted after i blocks. -/
def wantV : Nat → Value
  | 0 => .slice none 0 0
  | i + 1 => .slice (some ⟨4, 0, none⟩) (64 * (i + 1)) (capU + 1)
def wantM (key : List (BitVec 8)) (c : BitVec 32) (nonce : List (BitVec 8)) : Nat → Mem
  | 0 => []
  | i + 1 => [(4, some (.cells (arr .u8 (wantTo key c nonce (i + 1))) true true))]
set_option maxHeartbeats 4000000 in
theorem rows_fn (key nonce : List (BitVec 8)) (c : BitVec 32) (n : Int) (hk : key.length = 32) (hn : nonce.length = 12) : Fc Tryd.prog 8 0 [.agg (arr .u8 key), .int .u32 (nb c), .agg (arr .u8 nonce), .int .i64 n] [] (fun v m => v = .bool true ∧ m = []) := by
  have hp := pick_fn n 300 (by omega) (by omega)
  have hlt := pickN_lt n 300 (by omega)
  generalize pickN n 300 = m at hp hlt
  refine Fc.enter (N := 60) (fn := Tryd.f8) (rs := _) Tryd.func8 rfl Tryd.results8 rfl ?_
  repeat (first | refine Sp.seq ?_ | refine C.region ?_ | refine C.regionD (by kernel_rfl) ?_ | refine L.nil ?_ | refine L.nilD (by kernel_rfl) ?_ | (with_reducible refine C.next ?_) | refine Sp.block ?_ | refine Sp.skip ?_ | refine Sp.exit ?_ | (with_reducible refine C.bNormal ?_) | (with_reducible refine C.xSeq ?_) | (with_reducible refine C.xHit ?_) | (with_reducible refine C.xMiss rfl ?_) | (first
  | refine L.move rfl rfl ?_
  | refine L.assign rfl rfl ?_
  | refine L.bv rfl rfl rfl rfl ?_
  | refine L.shiftB rfl rfl rfl rfl ?_
  | refine L.shiftN rfl rfl rfl rfl ?_
  | refine L.bvCmp rfl rfl rfl rfl ?_
  | refine L.cmpN rfl rfl rfl rfl ?_
  | refine L.addN rfl rfl (by omega) rfl ?_
  | refine L.mulN rfl rfl (by omega) rfl ?_
  | refine L.subN rfl rfl (by omega) (by omega) rfl ?_
  | refine L.remN rfl rfl (by omega) rfl ?_
  | refine L.quoN rfl rfl (by omega) (by omega) rfl ?_
  | refine L.quoB rfl rfl (by decide) rfl ?_
  | refine L.not rfl rfl ?_
  | refine L.convB rfl rfl ?_
  | refine L.convN rfl rfl ?_
  | refine L.extract rfl rfl rfl rfl ?_
  | refine L.atA0 rfl rfl (by omega) rfl ?_
  | refine L.atA rfl rfl (by omega) rfl ?_
  | refine L.atA0s rfl rfl (by omega) rfl ?_
  | refine L.atS0 rfl rfl (by omega) rfl ?_
  | refine L.atS rfl rfl (by omega) rfl ?_
  | refine L.len rfl rfl ?_
  | refine L.lenNil rfl rfl ?_
  | refine L.slLo rfl rfl (by omega) rfl rfl ?_
  | refine L.slBoth rfl rfl rfl (by omega) (by omega) (by omega) rfl rfl ?_
  | refine L.slHi rfl rfl (by omega) rfl rfl ?_
  | refine L.slAll rfl rfl rfl ?_
  | refine L.indexW rfl rfl (by omega) (by omega) rfl ?_
  | refine L.loadW rfl rfl (by first | omega | (simp only [List.length_set]; omega)) rfl ?_
  | refine L.loadArr rfl rfl (by assumption) rfl ?_
  | refine L.loadL rfl rfl rfl rfl ?_
  | refine L.load rfl rfl rfl rfl ?_
  | refine L.boxA rfl rfl rfl ?_
  | refine L.box1 rfl rfl rfl rfl ?_
  | refine L.alloc rfl rfl ?_
  | refine L.storeW rfl rfl rfl (by first | omega | (simp only [List.length_set]; omega)) ?_
  | refine L.store rfl rfl rfl rfl (by omega) ?_
  | refine L.storeArr rfl rfl rfl (by first | assumption | rfl) (by first | assumption | rfl) ?_
  | refine L.storeA rfl rfl rfl rfl rfl ?_
  | refine L.pick rfl rfl rfl ?_
  | refine L.minmax rfl rfl rfl rfl ?_
  | refine L.eqArr rfl rfl (by first | assumption | rfl) (by first | assumption | rfl) rfl rfl ?_
  | refine L.str rfl rfl (by omega) rfl ?_
  | refine L.cmpS rfl rfl rfl rfl ?_
  | refine L.make rfl rfl (by omega) (by omega) (by omega) rfl rfl ?_
  | refine L.bs1 rfl rfl rfl ?_
  | refine L.bs0 rfl rfl ?_
  | refine L.met rfl rfl rfl ?_
  | refine L.loadG rfl rfl (by kernel_rfl) rfl ?_))
  refine L.call0 lives_fn rfl rfl ?_
  repeat (first | refine Sp.seq ?_ | refine C.region ?_ | refine C.regionD (by kernel_rfl) ?_ | refine L.nil ?_ | refine L.nilD (by kernel_rfl) ?_ | (with_reducible refine C.next ?_) | refine Sp.block ?_ | refine Sp.skip ?_ | refine Sp.exit ?_ | (with_reducible refine C.bNormal ?_) | (with_reducible refine C.xSeq ?_) | (with_reducible refine C.xHit ?_) | (with_reducible refine C.xMiss rfl ?_) | (first
  | refine L.move rfl rfl ?_
  | refine L.assign rfl rfl ?_
  | refine L.bv rfl rfl rfl rfl ?_
  | refine L.shiftB rfl rfl rfl rfl ?_
  | refine L.shiftN rfl rfl rfl rfl ?_
  | refine L.bvCmp rfl rfl rfl rfl ?_
  | refine L.cmpN rfl rfl rfl rfl ?_
  | refine L.addN rfl rfl (by omega) rfl ?_
  | refine L.mulN rfl rfl (by omega) rfl ?_
  | refine L.subN rfl rfl (by omega) (by omega) rfl ?_
  | refine L.remN rfl rfl (by omega) rfl ?_
  | refine L.quoN rfl rfl (by omega) (by omega) rfl ?_
  | refine L.quoB rfl rfl (by decide) rfl ?_
  | refine L.not rfl rfl ?_
  | refine L.convB rfl rfl ?_
  | refine L.convN rfl rfl ?_
  | refine L.extract rfl rfl rfl rfl ?_
  | refine L.atA0 rfl rfl (by omega) rfl ?_
  | refine L.atA rfl rfl (by omega) rfl ?_
  | refine L.atA0s rfl rfl (by omega) rfl ?_
  | refine L.atS0 rfl rfl (by omega) rfl ?_
  | refine L.atS rfl rfl (by omega) rfl ?_
  | refine L.len rfl rfl ?_
  | refine L.lenNil rfl rfl ?_
  | refine L.slLo rfl rfl (by omega) rfl rfl ?_
  | refine L.slBoth rfl rfl rfl (by omega) (by omega) (by omega) rfl rfl ?_
  | refine L.slHi rfl rfl (by omega) rfl rfl ?_
  | refine L.slAll rfl rfl rfl ?_
  | refine L.indexW rfl rfl (by omega) (by omega) rfl ?_
  | refine L.loadW rfl rfl (by first | omega | (simp only [List.length_set]; omega)) rfl ?_
  | refine L.loadArr rfl rfl (by assumption) rfl ?_
  | refine L.loadL rfl rfl rfl rfl ?_
  | refine L.load rfl rfl rfl rfl ?_
  | refine L.boxA rfl rfl rfl ?_
  | refine L.box1 rfl rfl rfl rfl ?_
  | refine L.alloc rfl rfl ?_
  | refine L.storeW rfl rfl rfl (by first | omega | (simp only [List.length_set]; omega)) ?_
  | refine L.store rfl rfl rfl rfl (by omega) ?_
  | refine L.storeArr rfl rfl rfl (by first | assumption | rfl) (by first | assumption | rfl) ?_
  | refine L.storeA rfl rfl rfl rfl rfl ?_
  | refine L.pick rfl rfl rfl ?_
  | refine L.minmax rfl rfl rfl rfl ?_
  | refine L.eqArr rfl rfl (by first | assumption | rfl) (by first | assumption | rfl) rfl rfl ?_
  | refine L.str rfl rfl (by omega) rfl ?_
  | refine L.cmpS rfl rfl rfl rfl ?_
  | refine L.make rfl rfl (by omega) (by omega) (by omega) rfl rfl ?_
  | refine L.bs1 rfl rfl rfl ?_
  | refine L.bs0 rfl rfl ?_
  | refine L.met rfl rfl rfl ?_
  | refine L.loadG rfl rfl (by kernel_rfl) rfl ?_))
  refine C.condF rfl rfl ?_
  repeat (first | refine Sp.seq ?_ | refine C.region ?_ | refine C.regionD (by kernel_rfl) ?_ | refine L.nil ?_ | refine L.nilD (by kernel_rfl) ?_ | (with_reducible refine C.next ?_) | refine Sp.block ?_ | refine Sp.skip ?_ | refine Sp.exit ?_ | (with_reducible refine C.bNormal ?_) | (with_reducible refine C.xSeq ?_) | (with_reducible refine C.xHit ?_) | (with_reducible refine C.xMiss rfl ?_) | (first
  | refine L.move rfl rfl ?_
  | refine L.assign rfl rfl ?_
  | refine L.bv rfl rfl rfl rfl ?_
  | refine L.shiftB rfl rfl rfl rfl ?_
  | refine L.shiftN rfl rfl rfl rfl ?_
  | refine L.bvCmp rfl rfl rfl rfl ?_
  | refine L.cmpN rfl rfl rfl rfl ?_
  | refine L.addN rfl rfl (by omega) rfl ?_
  | refine L.mulN rfl rfl (by omega) rfl ?_
  | refine L.subN rfl rfl (by omega) (by omega) rfl ?_
  | refine L.remN rfl rfl (by omega) rfl ?_
  | refine L.quoN rfl rfl (by omega) (by omega) rfl ?_
  | refine L.quoB rfl rfl (by decide) rfl ?_
  | refine L.not rfl rfl ?_
  | refine L.convB rfl rfl ?_
  | refine L.convN rfl rfl ?_
  | refine L.extract rfl rfl rfl rfl ?_
  | refine L.atA0 rfl rfl (by omega) rfl ?_
  | refine L.atA rfl rfl (by omega) rfl ?_
  | refine L.atA0s rfl rfl (by omega) rfl ?_
  | refine L.atS0 rfl rfl (by omega) rfl ?_
  | refine L.atS rfl rfl (by omega) rfl ?_
  | refine L.len rfl rfl ?_
  | refine L.lenNil rfl rfl ?_
  | refine L.slLo rfl rfl (by omega) rfl rfl ?_
  | refine L.slBoth rfl rfl rfl (by omega) (by omega) (by omega) rfl rfl ?_
  | refine L.slHi rfl rfl (by omega) rfl rfl ?_
  | refine L.slAll rfl rfl rfl ?_
  | refine L.indexW rfl rfl (by omega) (by omega) rfl ?_
  | refine L.loadW rfl rfl (by first | omega | (simp only [List.length_set]; omega)) rfl ?_
  | refine L.loadArr rfl rfl (by assumption) rfl ?_
  | refine L.loadL rfl rfl rfl rfl ?_
  | refine L.load rfl rfl rfl rfl ?_
  | refine L.boxA rfl rfl rfl ?_
  | refine L.box1 rfl rfl rfl rfl ?_
  | refine L.alloc rfl rfl ?_
  | refine L.storeW rfl rfl rfl (by first | omega | (simp only [List.length_set]; omega)) ?_
  | refine L.store rfl rfl rfl rfl (by omega) ?_
  | refine L.storeArr rfl rfl rfl (by first | assumption | rfl) (by first | assumption | rfl) ?_
  | refine L.storeA rfl rfl rfl rfl rfl ?_
  | refine L.pick rfl rfl rfl ?_
  | refine L.minmax rfl rfl rfl rfl ?_
  | refine L.eqArr rfl rfl (by first | assumption | rfl) (by first | assumption | rfl) rfl rfl ?_
  | refine L.str rfl rfl (by omega) rfl ?_
  | refine L.cmpS rfl rfl rfl rfl ?_
  | refine L.make rfl rfl (by omega) (by omega) (by omega) rfl rfl ?_
  | refine L.bs1 rfl rfl rfl ?_
  | refine L.bs0 rfl rfl ?_
  | refine L.met rfl rfl rfl ?_
  | refine L.loadG rfl rfl (by kernel_rfl) rfl ?_))
  refine L.call0 hp rfl rfl ?_
  repeat (first | refine Sp.seq ?_ | refine C.region ?_ | refine C.regionD (by kernel_rfl) ?_ | refine L.nil ?_ | refine L.nilD (by kernel_rfl) ?_ | (with_reducible refine C.next ?_) | refine Sp.block ?_ | refine Sp.skip ?_ | refine Sp.exit ?_ | (with_reducible refine C.bNormal ?_) | (with_reducible refine C.xSeq ?_) | (with_reducible refine C.xHit ?_) | (with_reducible refine C.xMiss rfl ?_) | (first
  | refine L.move rfl rfl ?_
  | refine L.assign rfl rfl ?_
  | refine L.bv rfl rfl rfl rfl ?_
  | refine L.shiftB rfl rfl rfl rfl ?_
  | refine L.shiftN rfl rfl rfl rfl ?_
  | refine L.bvCmp rfl rfl rfl rfl ?_
  | refine L.cmpN rfl rfl rfl rfl ?_
  | refine L.addN rfl rfl (by omega) rfl ?_
  | refine L.mulN rfl rfl (by omega) rfl ?_
  | refine L.subN rfl rfl (by omega) (by omega) rfl ?_
  | refine L.remN rfl rfl (by omega) rfl ?_
  | refine L.quoN rfl rfl (by omega) (by omega) rfl ?_
  | refine L.quoB rfl rfl (by decide) rfl ?_
  | refine L.not rfl rfl ?_
  | refine L.convB rfl rfl ?_
  | refine L.convN rfl rfl ?_
  | refine L.extract rfl rfl rfl rfl ?_
  | refine L.atA0 rfl rfl (by omega) rfl ?_
  | refine L.atA rfl rfl (by omega) rfl ?_
  | refine L.atA0s rfl rfl (by omega) rfl ?_
  | refine L.atS0 rfl rfl (by omega) rfl ?_
  | refine L.atS rfl rfl (by omega) rfl ?_
  | refine L.len rfl rfl ?_
  | refine L.lenNil rfl rfl ?_
  | refine L.slLo rfl rfl (by omega) rfl rfl ?_
  | refine L.slBoth rfl rfl rfl (by omega) (by omega) (by omega) rfl rfl ?_
  | refine L.slHi rfl rfl (by omega) rfl rfl ?_
  | refine L.slAll rfl rfl rfl ?_
  | refine L.indexW rfl rfl (by omega) (by omega) rfl ?_
  | refine L.loadW rfl rfl (by first | omega | (simp only [List.length_set]; omega)) rfl ?_
  | refine L.loadArr rfl rfl (by assumption) rfl ?_
  | refine L.loadL rfl rfl rfl rfl ?_
  | refine L.load rfl rfl rfl rfl ?_
  | refine L.boxA rfl rfl rfl ?_
  | refine L.box1 rfl rfl rfl rfl ?_
  | refine L.alloc rfl rfl ?_
  | refine L.storeW rfl rfl rfl (by first | omega | (simp only [List.length_set]; omega)) ?_
  | refine L.store rfl rfl rfl rfl (by omega) ?_
  | refine L.storeArr rfl rfl rfl (by first | assumption | rfl) (by first | assumption | rfl) ?_
  | refine L.storeA rfl rfl rfl rfl rfl ?_
  | refine L.pick rfl rfl rfl ?_
  | refine L.minmax rfl rfl rfl rfl ?_
  | refine L.eqArr rfl rfl (by first | assumption | rfl) (by first | assumption | rfl) rfl rfl ?_
  | refine L.str rfl rfl (by omega) rfl ?_
  | refine L.cmpS rfl rfl rfl rfl ?_
  | refine L.make rfl rfl (by omega) (by omega) (by omega) rfl rfl ?_
  | refine L.bs1 rfl rfl rfl ?_
  | refine L.bs0 rfl rfl ?_
  | refine L.met rfl rfl rfl ?_
  | refine L.loadG rfl rfl (by kernel_rfl) rfl ?_))
  by_cases hL : tooLong m c
  · refine L.callRo [(2, 0)] [⟨8, .u8, List.replicate m 0#8⟩] (xor_long key nonce (List.replicate m 0#8) c m m hk hn (by simp) (by omega) hL) rfl rfl (by simp only [List.map_cons, List.map_nil, rn_arr]; rfl) ⟨⟨List.replicate m 0#8, false, true, rfl, rfl, by omega, by decide⟩, trivial⟩ rfl ?_
    repeat (first | refine Sp.seq ?_ | refine C.region ?_ | refine C.regionD (by kernel_rfl) ?_ | refine L.nil ?_ | refine L.nilD (by kernel_rfl) ?_ | (with_reducible refine C.next ?_) | refine Sp.block ?_ | refine Sp.skip ?_ | refine Sp.exit ?_ | (with_reducible refine C.bNormal ?_) | (with_reducible refine C.xSeq ?_) | (with_reducible refine C.xHit ?_) | (with_reducible refine C.xMiss rfl ?_) | (first
  | refine L.move rfl rfl ?_
  | refine L.assign rfl rfl ?_
  | refine L.bv rfl rfl rfl rfl ?_
  | refine L.shiftB rfl rfl rfl rfl ?_
  | refine L.shiftN rfl rfl rfl rfl ?_
  | refine L.bvCmp rfl rfl rfl rfl ?_
  | refine L.cmpN rfl rfl rfl rfl ?_
  | refine L.addN rfl rfl (by omega) rfl ?_
  | refine L.mulN rfl rfl (by omega) rfl ?_
  | refine L.subN rfl rfl (by omega) (by omega) rfl ?_
  | refine L.remN rfl rfl (by omega) rfl ?_
  | refine L.quoN rfl rfl (by omega) (by omega) rfl ?_
  | refine L.quoB rfl rfl (by decide) rfl ?_
  | refine L.not rfl rfl ?_
  | refine L.convB rfl rfl ?_
  | refine L.convN rfl rfl ?_
  | refine L.extract rfl rfl rfl rfl ?_
  | refine L.atA0 rfl rfl (by omega) rfl ?_
  | refine L.atA rfl rfl (by omega) rfl ?_
  | refine L.atA0s rfl rfl (by omega) rfl ?_
  | refine L.atS0 rfl rfl (by omega) rfl ?_
  | refine L.atS rfl rfl (by omega) rfl ?_
  | refine L.len rfl rfl ?_
  | refine L.lenNil rfl rfl ?_
  | refine L.slLo rfl rfl (by omega) rfl rfl ?_
  | refine L.slBoth rfl rfl rfl (by omega) (by omega) (by omega) rfl rfl ?_
  | refine L.slHi rfl rfl (by omega) rfl rfl ?_
  | refine L.slAll rfl rfl rfl ?_
  | refine L.indexW rfl rfl (by omega) (by omega) rfl ?_
  | refine L.loadW rfl rfl (by first | omega | (simp only [List.length_set]; omega)) rfl ?_
  | refine L.loadArr rfl rfl (by assumption) rfl ?_
  | refine L.loadL rfl rfl rfl rfl ?_
  | refine L.load rfl rfl rfl rfl ?_
  | refine L.boxA rfl rfl rfl ?_
  | refine L.box1 rfl rfl rfl rfl ?_
  | refine L.alloc rfl rfl ?_
  | refine L.storeW rfl rfl rfl (by first | omega | (simp only [List.length_set]; omega)) ?_
  | refine L.store rfl rfl rfl rfl (by omega) ?_
  | refine L.storeArr rfl rfl rfl (by first | assumption | rfl) (by first | assumption | rfl) ?_
  | refine L.storeA rfl rfl rfl rfl rfl ?_
  | refine L.pick rfl rfl rfl ?_
  | refine L.minmax rfl rfl rfl rfl ?_
  | refine L.eqArr rfl rfl (by first | assumption | rfl) (by first | assumption | rfl) rfl rfl ?_
  | refine L.str rfl rfl (by omega) rfl ?_
  | refine L.cmpS rfl rfl rfl rfl ?_
  | refine L.make rfl rfl (by omega) (by omega) (by omega) rfl rfl ?_
  | refine L.bs1 rfl rfl rfl ?_
  | refine L.bs0 rfl rfl ?_
  | refine L.met rfl rfl rfl ?_
  | refine L.loadG rfl rfl (by kernel_rfl) rfl ?_))
    refine C.condT rfl rfl ?_
    repeat (first | refine Sp.seq ?_ | refine C.region ?_ | refine C.regionD (by kernel_rfl) ?_ | refine L.nil ?_ | refine L.nilD (by kernel_rfl) ?_ | (with_reducible refine C.next ?_) | refine Sp.block ?_ | refine Sp.skip ?_ | refine Sp.exit ?_ | (with_reducible refine C.bNormal ?_) | (with_reducible refine C.xSeq ?_) | (with_reducible refine C.xHit ?_) | (with_reducible refine C.xMiss rfl ?_) | (first
  | refine L.move rfl rfl ?_
  | refine L.assign rfl rfl ?_
  | refine L.bv rfl rfl rfl rfl ?_
  | refine L.shiftB rfl rfl rfl rfl ?_
  | refine L.shiftN rfl rfl rfl rfl ?_
  | refine L.bvCmp rfl rfl rfl rfl ?_
  | refine L.cmpN rfl rfl rfl rfl ?_
  | refine L.addN rfl rfl (by omega) rfl ?_
  | refine L.mulN rfl rfl (by omega) rfl ?_
  | refine L.subN rfl rfl (by omega) (by omega) rfl ?_
  | refine L.remN rfl rfl (by omega) rfl ?_
  | refine L.quoN rfl rfl (by omega) (by omega) rfl ?_
  | refine L.quoB rfl rfl (by decide) rfl ?_
  | refine L.not rfl rfl ?_
  | refine L.convB rfl rfl ?_
  | refine L.convN rfl rfl ?_
  | refine L.extract rfl rfl rfl rfl ?_
  | refine L.atA0 rfl rfl (by omega) rfl ?_
  | refine L.atA rfl rfl (by omega) rfl ?_
  | refine L.atA0s rfl rfl (by omega) rfl ?_
  | refine L.atS0 rfl rfl (by omega) rfl ?_
  | refine L.atS rfl rfl (by omega) rfl ?_
  | refine L.len rfl rfl ?_
  | refine L.lenNil rfl rfl ?_
  | refine L.slLo rfl rfl (by omega) rfl rfl ?_
  | refine L.slBoth rfl rfl rfl (by omega) (by omega) (by omega) rfl rfl ?_
  | refine L.slHi rfl rfl (by omega) rfl rfl ?_
  | refine L.slAll rfl rfl rfl ?_
  | refine L.indexW rfl rfl (by omega) (by omega) rfl ?_
  | refine L.loadW rfl rfl (by first | omega | (simp only [List.length_set]; omega)) rfl ?_
  | refine L.loadArr rfl rfl (by assumption) rfl ?_
  | refine L.loadL rfl rfl rfl rfl ?_
  | refine L.load rfl rfl rfl rfl ?_
  | refine L.boxA rfl rfl rfl ?_
  | refine L.box1 rfl rfl rfl rfl ?_
  | refine L.alloc rfl rfl ?_
  | refine L.storeW rfl rfl rfl (by first | omega | (simp only [List.length_set]; omega)) ?_
  | refine L.store rfl rfl rfl rfl (by omega) ?_
  | refine L.storeArr rfl rfl rfl (by first | assumption | rfl) (by first | assumption | rfl) ?_
  | refine L.storeA rfl rfl rfl rfl rfl ?_
  | refine L.pick rfl rfl rfl ?_
  | refine L.minmax rfl rfl rfl rfl ?_
  | refine L.eqArr rfl rfl (by first | assumption | rfl) (by first | assumption | rfl) rfl rfl ?_
  | refine L.str rfl rfl (by omega) rfl ?_
  | refine L.cmpS rfl rfl rfl rfl ?_
  | refine L.make rfl rfl (by omega) (by omega) (by omega) rfl rfl ?_
  | refine L.bs1 rfl rfl rfl ?_
  | refine L.bs0 rfl rfl ?_
  | refine L.met rfl rfl rfl ?_
  | refine L.loadG rfl rfl (by kernel_rfl) rfl ?_))
    exact Sp.ret (C.rSeq (retK.t1 [] rfl rfl (Less.nil _) ⟨congrArg Value.bool (decide_eq_true ((tooLong_iff2 m c (by omega)).2 hL)), rfl⟩))
  · have hxl := xorTo_length key c nonce (List.replicate m 0#8) m m
    refine L.callNew [(2, 0)] [⟨8, .u8, List.replicate m 0#8⟩] (V' := .tuple #[.slice (some ⟨3, 0, none⟩) m m, .int .i64 ((0 : Nat) : Int)]) (xor_fn key nonce (List.replicate m 0#8) c m m hk hn (by simp) (by omega) hL) rfl rfl (by simp only [List.map_cons, List.map_nil, rn_arr]; rfl) ⟨⟨List.replicate m 0#8, false, true, rfl, rfl, by omega, by decide⟩, trivial⟩ rfl rfl rfl (by kernel_rfl) (N3_two (fun h => by cases h) trivial) rfl rfl ?_
    repeat (first | refine Sp.seq ?_ | refine C.region ?_ | refine C.regionD (by kernel_rfl) ?_ | refine L.nil ?_ | refine L.nilD (by kernel_rfl) ?_ | (with_reducible refine C.next ?_) | refine Sp.block ?_ | refine Sp.skip ?_ | refine Sp.exit ?_ | (with_reducible refine C.bNormal ?_) | (with_reducible refine C.xSeq ?_) | (with_reducible refine C.xHit ?_) | (with_reducible refine C.xMiss rfl ?_) | (first
  | refine L.move rfl rfl ?_
  | refine L.assign rfl rfl ?_
  | refine L.bv rfl rfl rfl rfl ?_
  | refine L.shiftB rfl rfl rfl rfl ?_
  | refine L.shiftN rfl rfl rfl rfl ?_
  | refine L.bvCmp rfl rfl rfl rfl ?_
  | refine L.cmpN rfl rfl rfl rfl ?_
  | refine L.addN rfl rfl (by omega) rfl ?_
  | refine L.mulN rfl rfl (by omega) rfl ?_
  | refine L.subN rfl rfl (by omega) (by omega) rfl ?_
  | refine L.remN rfl rfl (by omega) rfl ?_
  | refine L.quoN rfl rfl (by omega) (by omega) rfl ?_
  | refine L.quoB rfl rfl (by decide) rfl ?_
  | refine L.not rfl rfl ?_
  | refine L.convB rfl rfl ?_
  | refine L.convN rfl rfl ?_
  | refine L.extract rfl rfl rfl rfl ?_
  | refine L.atA0 rfl rfl (by omega) rfl ?_
  | refine L.atA rfl rfl (by omega) rfl ?_
  | refine L.atA0s rfl rfl (by omega) rfl ?_
  | refine L.atS0 rfl rfl (by omega) rfl ?_
  | refine L.atS rfl rfl (by omega) rfl ?_
  | refine L.len rfl rfl ?_
  | refine L.lenNil rfl rfl ?_
  | refine L.slLo rfl rfl (by omega) rfl rfl ?_
  | refine L.slBoth rfl rfl rfl (by omega) (by omega) (by omega) rfl rfl ?_
  | refine L.slHi rfl rfl (by omega) rfl rfl ?_
  | refine L.slAll rfl rfl rfl ?_
  | refine L.indexW rfl rfl (by omega) (by omega) rfl ?_
  | refine L.loadW rfl rfl (by first | omega | (simp only [List.length_set]; omega)) rfl ?_
  | refine L.loadArr rfl rfl (by assumption) rfl ?_
  | refine L.loadL rfl rfl rfl rfl ?_
  | refine L.load rfl rfl rfl rfl ?_
  | refine L.boxA rfl rfl rfl ?_
  | refine L.box1 rfl rfl rfl rfl ?_
  | refine L.alloc rfl rfl ?_
  | refine L.storeW rfl rfl rfl (by first | omega | (simp only [List.length_set]; omega)) ?_
  | refine L.store rfl rfl rfl rfl (by omega) ?_
  | refine L.storeArr rfl rfl rfl (by first | assumption | rfl) (by first | assumption | rfl) ?_
  | refine L.storeA rfl rfl rfl rfl rfl ?_
  | refine L.pick rfl rfl rfl ?_
  | refine L.minmax rfl rfl rfl rfl ?_
  | refine L.eqArr rfl rfl (by first | assumption | rfl) (by first | assumption | rfl) rfl rfl ?_
  | refine L.str rfl rfl (by omega) rfl ?_
  | refine L.cmpS rfl rfl rfl rfl ?_
  | refine L.make rfl rfl (by omega) (by omega) (by omega) rfl rfl ?_
  | refine L.bs1 rfl rfl rfl ?_
  | refine L.bs0 rfl rfl ?_
  | refine L.met rfl rfl rfl ?_
  | refine L.loadG rfl rfl (by kernel_rfl) rfl ?_))
    refine C.condF rfl rfl ?_
    repeat (first | refine Sp.seq ?_ | refine C.region ?_ | refine C.regionD (by kernel_rfl) ?_ | refine L.nil ?_ | refine L.nilD (by kernel_rfl) ?_ | (with_reducible refine C.next ?_) | refine Sp.block ?_ | refine Sp.skip ?_ | refine Sp.exit ?_ | (with_reducible refine C.bNormal ?_) | (with_reducible refine C.xSeq ?_) | (with_reducible refine C.xHit ?_) | (with_reducible refine C.xMiss rfl ?_) | (first
  | refine L.move rfl rfl ?_
  | refine L.assign rfl rfl ?_
  | refine L.bv rfl rfl rfl rfl ?_
  | refine L.shiftB rfl rfl rfl rfl ?_
  | refine L.shiftN rfl rfl rfl rfl ?_
  | refine L.bvCmp rfl rfl rfl rfl ?_
  | refine L.cmpN rfl rfl rfl rfl ?_
  | refine L.addN rfl rfl (by omega) rfl ?_
  | refine L.mulN rfl rfl (by omega) rfl ?_
  | refine L.subN rfl rfl (by omega) (by omega) rfl ?_
  | refine L.remN rfl rfl (by omega) rfl ?_
  | refine L.quoN rfl rfl (by omega) (by omega) rfl ?_
  | refine L.quoB rfl rfl (by decide) rfl ?_
  | refine L.not rfl rfl ?_
  | refine L.convB rfl rfl ?_
  | refine L.convN rfl rfl ?_
  | refine L.extract rfl rfl rfl rfl ?_
  | refine L.atA0 rfl rfl (by omega) rfl ?_
  | refine L.atA rfl rfl (by omega) rfl ?_
  | refine L.atA0s rfl rfl (by omega) rfl ?_
  | refine L.atS0 rfl rfl (by omega) rfl ?_
  | refine L.atS rfl rfl (by omega) rfl ?_
  | refine L.len rfl rfl ?_
  | refine L.lenNil rfl rfl ?_
  | refine L.slLo rfl rfl (by omega) rfl rfl ?_
  | refine L.slBoth rfl rfl rfl (by omega) (by omega) (by omega) rfl rfl ?_
  | refine L.slHi rfl rfl (by omega) rfl rfl ?_
  | refine L.slAll rfl rfl rfl ?_
  | refine L.indexW rfl rfl (by omega) (by omega) rfl ?_
  | refine L.loadW rfl rfl (by first | omega | (simp only [List.length_set]; omega)) rfl ?_
  | refine L.loadArr rfl rfl (by assumption) rfl ?_
  | refine L.loadL rfl rfl rfl rfl ?_
  | refine L.load rfl rfl rfl rfl ?_
  | refine L.boxA rfl rfl rfl ?_
  | refine L.box1 rfl rfl rfl rfl ?_
  | refine L.alloc rfl rfl ?_
  | refine L.storeW rfl rfl rfl (by first | omega | (simp only [List.length_set]; omega)) ?_
  | refine L.store rfl rfl rfl rfl (by omega) ?_
  | refine L.storeArr rfl rfl rfl (by first | assumption | rfl) (by first | assumption | rfl) ?_
  | refine L.storeA rfl rfl rfl rfl rfl ?_
  | refine L.pick rfl rfl rfl ?_
  | refine L.minmax rfl rfl rfl rfl ?_
  | refine L.eqArr rfl rfl (by first | assumption | rfl) (by first | assumption | rfl) rfl rfl ?_
  | refine L.str rfl rfl (by omega) rfl ?_
  | refine L.cmpS rfl rfl rfl rfl ?_
  | refine L.make rfl rfl (by omega) (by omega) (by omega) rfl rfl ?_
  | refine L.bs1 rfl rfl rfl ?_
  | refine L.bs0 rfl rfl ?_
  | refine L.met rfl rfl rfl ?_
  | refine L.loadG rfl rfl (by kernel_rfl) rfl ?_))
    refine Sp.loop (fun i : Nat => 64 * i < m + 64) (fun i => ⟨5, [(12, .int .i64 (i : Int)), (11, wantV i), (9, .slice (some ⟨3, 0, none⟩) m m), (3, .int .i64 (m : Int)), (1, .int .u32 (nb c)), (4, .pointer (some ⟨0, 0, none⟩)), (6, .pointer (some ⟨1, 0, none⟩))],
      [(0, some (.cells (arr .u8 key) false true)), (1, some (.cells (arr .u8 nonce) false true)), (3, some (.cells (arr .u8 (xorTo key c nonce (List.replicate m 0#8) m m)) false true))] ++ wantM key c nonce i, []⟩) (fun i => m + 64 - 64 * i) 0 (by omega) ?_ ?_
    · show Weak _ _ ⟨5, [(12, _), (11, .slice none 0 0), (9, _), (3, _), (1, _), (4, _), (6, _)], [(0, _), (1, _), (3, _)], []⟩
      (refine weak_mk rfl ?_ ?_
       · repeat (first | exact AllF.nil | refine AllF.pl rfl ?_ | refine AllF.ptr rfl rfl ?_ | refine AllF.sl rfl rfl ?_ | refine AllF.map rfl rfl ?_)
       · repeat (first | exact AllM.nil | refine AllM.arr rfl rfl ?_ | refine AllM.pl (by kernel_rfl) rfl rfl ?_))
    · intro i hi
      cases i with
      | zero =>
        show Sp _ _ _ _ ⟨5, [(12, .int .i64 ((0 : Nat) : Int)), (11, .slice none 0 0), (9, .slice (some ⟨3, 0, none⟩) m m), (3, .int .i64 (m : Int)), (1, .int .u32 (nb c)), (4, .pointer (some ⟨0, 0, none⟩)), (6, .pointer (some ⟨1, 0, none⟩))],
          [(0, some (.cells (arr .u8 key) false true)), (1, some (.cells (arr .u8 nonce) false true)), (3, some (.cells (arr .u8 (xorTo key c nonce (List.replicate m 0#8) m m)) false true))], []⟩ _
        repeat (first | refine Sp.seq ?_ | refine C.region ?_ | refine C.regionD (by kernel_rfl) ?_ | refine L.nil ?_ | refine L.nilD (by kernel_rfl) ?_ | (with_reducible refine C.next ?_) | refine Sp.block ?_ | refine Sp.skip ?_ | refine Sp.exit ?_ | (with_reducible refine C.bNormal ?_) | (with_reducible refine C.xSeq ?_) | (with_reducible refine C.xHit ?_) | (with_reducible refine C.xMiss rfl ?_) | (first
  | refine L.move rfl rfl ?_
  | refine L.assign rfl rfl ?_
  | refine L.bv rfl rfl rfl rfl ?_
  | refine L.shiftB rfl rfl rfl rfl ?_
  | refine L.shiftN rfl rfl rfl rfl ?_
  | refine L.bvCmp rfl rfl rfl rfl ?_
  | refine L.cmpN rfl rfl rfl rfl ?_
  | refine L.addN rfl rfl (by omega) rfl ?_
  | refine L.mulN rfl rfl (by omega) rfl ?_
  | refine L.subN rfl rfl (by omega) (by omega) rfl ?_
  | refine L.remN rfl rfl (by omega) rfl ?_
  | refine L.quoN rfl rfl (by omega) (by omega) rfl ?_
  | refine L.quoB rfl rfl (by decide) rfl ?_
  | refine L.not rfl rfl ?_
  | refine L.convB rfl rfl ?_
  | refine L.convN rfl rfl ?_
  | refine L.extract rfl rfl rfl rfl ?_
  | refine L.atA0 rfl rfl (by omega) rfl ?_
  | refine L.atA rfl rfl (by omega) rfl ?_
  | refine L.atA0s rfl rfl (by omega) rfl ?_
  | refine L.atS0 rfl rfl (by omega) rfl ?_
  | refine L.atS rfl rfl (by omega) rfl ?_
  | refine L.len rfl rfl ?_
  | refine L.lenNil rfl rfl ?_
  | refine L.slLo rfl rfl (by omega) rfl rfl ?_
  | refine L.slBoth rfl rfl rfl (by omega) (by omega) (by omega) rfl rfl ?_
  | refine L.slHi rfl rfl (by omega) rfl rfl ?_
  | refine L.slAll rfl rfl rfl ?_
  | refine L.indexW rfl rfl (by omega) (by omega) rfl ?_
  | refine L.loadW rfl rfl (by first | omega | (simp only [List.length_set]; omega)) rfl ?_
  | refine L.loadArr rfl rfl (by assumption) rfl ?_
  | refine L.loadL rfl rfl rfl rfl ?_
  | refine L.load rfl rfl rfl rfl ?_
  | refine L.boxA rfl rfl rfl ?_
  | refine L.box1 rfl rfl rfl rfl ?_
  | refine L.alloc rfl rfl ?_
  | refine L.storeW rfl rfl rfl (by first | omega | (simp only [List.length_set]; omega)) ?_
  | refine L.store rfl rfl rfl rfl (by omega) ?_
  | refine L.storeArr rfl rfl rfl (by first | assumption | rfl) (by first | assumption | rfl) ?_
  | refine L.storeA rfl rfl rfl rfl rfl ?_
  | refine L.pick rfl rfl rfl ?_
  | refine L.minmax rfl rfl rfl rfl ?_
  | refine L.eqArr rfl rfl (by first | assumption | rfl) (by first | assumption | rfl) rfl rfl ?_
  | refine L.str rfl rfl (by omega) rfl ?_
  | refine L.cmpS rfl rfl rfl rfl ?_
  | refine L.make rfl rfl (by omega) (by omega) (by omega) rfl rfl ?_
  | refine L.bs1 rfl rfl rfl ?_
  | refine L.bs0 rfl rfl ?_
  | refine L.met rfl rfl rfl ?_
  | refine L.loadG rfl rfl (by kernel_rfl) rfl ?_))
        by_cases hlt2 : 0 < m
        · refine C.condT rfl (decide_eq_true hlt2) ?_
          have hbl := block_length key (c + BitVec.ofNat 32 0) nonce
          repeat (first | refine Sp.seq ?_ | refine C.region ?_ | refine C.regionD (by kernel_rfl) ?_ | refine L.nil ?_ | refine L.nilD (by kernel_rfl) ?_ | (with_reducible refine C.next ?_) | refine Sp.block ?_ | refine Sp.skip ?_ | refine Sp.exit ?_ | (with_reducible refine C.bNormal ?_) | (with_reducible refine C.xSeq ?_) | (with_reducible refine C.xHit ?_) | (with_reducible refine C.xMiss rfl ?_) | (first
  | refine L.move rfl rfl ?_
  | refine L.assign rfl rfl ?_
  | refine L.bv rfl rfl rfl rfl ?_
  | refine L.shiftB rfl rfl rfl rfl ?_
  | refine L.shiftN rfl rfl rfl rfl ?_
  | refine L.bvCmp rfl rfl rfl rfl ?_
  | refine L.cmpN rfl rfl rfl rfl ?_
  | refine L.addN rfl rfl (by omega) rfl ?_
  | refine L.mulN rfl rfl (by omega) rfl ?_
  | refine L.subN rfl rfl (by omega) (by omega) rfl ?_
  | refine L.remN rfl rfl (by omega) rfl ?_
  | refine L.quoN rfl rfl (by omega) (by omega) rfl ?_
  | refine L.quoB rfl rfl (by decide) rfl ?_
  | refine L.not rfl rfl ?_
  | refine L.convB rfl rfl ?_
  | refine L.convN rfl rfl ?_
  | refine L.extract rfl rfl rfl rfl ?_
  | refine L.atA0 rfl rfl (by omega) rfl ?_
  | refine L.atA rfl rfl (by omega) rfl ?_
  | refine L.atA0s rfl rfl (by omega) rfl ?_
  | refine L.atS0 rfl rfl (by omega) rfl ?_
  | refine L.atS rfl rfl (by omega) rfl ?_
  | refine L.len rfl rfl ?_
  | refine L.lenNil rfl rfl ?_
  | refine L.slLo rfl rfl (by omega) rfl rfl ?_
  | refine L.slBoth rfl rfl rfl (by omega) (by omega) (by omega) rfl rfl ?_
  | refine L.slHi rfl rfl (by omega) rfl rfl ?_
  | refine L.slAll rfl rfl rfl ?_
  | refine L.indexW rfl rfl (by omega) (by omega) rfl ?_
  | refine L.loadW rfl rfl (by first | omega | (simp only [List.length_set]; omega)) rfl ?_
  | refine L.loadArr rfl rfl (by assumption) rfl ?_
  | refine L.loadL rfl rfl rfl rfl ?_
  | refine L.load rfl rfl rfl rfl ?_
  | refine L.boxA rfl rfl rfl ?_
  | refine L.box1 rfl rfl rfl rfl ?_
  | refine L.alloc rfl rfl ?_
  | refine L.storeW rfl rfl rfl (by first | omega | (simp only [List.length_set]; omega)) ?_
  | refine L.store rfl rfl rfl rfl (by omega) ?_
  | refine L.storeArr rfl rfl rfl (by first | assumption | rfl) (by first | assumption | rfl) ?_
  | refine L.storeA rfl rfl rfl rfl rfl ?_
  | refine L.pick rfl rfl rfl ?_
  | refine L.minmax rfl rfl rfl rfl ?_
  | refine L.eqArr rfl rfl (by first | assumption | rfl) (by first | assumption | rfl) rfl rfl ?_
  | refine L.str rfl rfl (by omega) rfl ?_
  | refine L.cmpS rfl rfl rfl rfl ?_
  | refine L.make rfl rfl (by omega) (by omega) (by omega) rfl rfl ?_
  | refine L.bs1 rfl rfl rfl ?_
  | refine L.bs0 rfl rfl ?_
  | refine L.met rfl rfl rfl ?_
  | refine L.loadG rfl rfl (by kernel_rfl) rfl ?_))
          refine L.call0 (block_fn key nonce (c + BitVec.ofNat 32 0) hk hn) rfl rfl ?_
          repeat (first | refine Sp.seq ?_ | refine C.region ?_ | refine C.regionD (by kernel_rfl) ?_ | refine L.nil ?_ | refine L.nilD (by kernel_rfl) ?_ | (with_reducible refine C.next ?_) | refine Sp.block ?_ | refine Sp.skip ?_ | refine Sp.exit ?_ | (with_reducible refine C.bNormal ?_) | (with_reducible refine C.xSeq ?_) | (with_reducible refine C.xHit ?_) | (with_reducible refine C.xMiss rfl ?_) | (first
  | refine L.move rfl rfl ?_
  | refine L.assign rfl rfl ?_
  | refine L.bv rfl rfl rfl rfl ?_
  | refine L.shiftB rfl rfl rfl rfl ?_
  | refine L.shiftN rfl rfl rfl rfl ?_
  | refine L.bvCmp rfl rfl rfl rfl ?_
  | refine L.cmpN rfl rfl rfl rfl ?_
  | refine L.addN rfl rfl (by omega) rfl ?_
  | refine L.mulN rfl rfl (by omega) rfl ?_
  | refine L.subN rfl rfl (by omega) (by omega) rfl ?_
  | refine L.remN rfl rfl (by omega) rfl ?_
  | refine L.quoN rfl rfl (by omega) (by omega) rfl ?_
  | refine L.quoB rfl rfl (by decide) rfl ?_
  | refine L.not rfl rfl ?_
  | refine L.convB rfl rfl ?_
  | refine L.convN rfl rfl ?_
  | refine L.extract rfl rfl rfl rfl ?_
  | refine L.atA0 rfl rfl (by omega) rfl ?_
  | refine L.atA rfl rfl (by omega) rfl ?_
  | refine L.atA0s rfl rfl (by omega) rfl ?_
  | refine L.atS0 rfl rfl (by omega) rfl ?_
  | refine L.atS rfl rfl (by omega) rfl ?_
  | refine L.len rfl rfl ?_
  | refine L.lenNil rfl rfl ?_
  | refine L.slLo rfl rfl (by omega) rfl rfl ?_
  | refine L.slBoth rfl rfl rfl (by omega) (by omega) (by omega) rfl rfl ?_
  | refine L.slHi rfl rfl (by omega) rfl rfl ?_
  | refine L.slAll rfl rfl rfl ?_
  | refine L.indexW rfl rfl (by omega) (by omega) rfl ?_
  | refine L.loadW rfl rfl (by first | omega | (simp only [List.length_set]; omega)) rfl ?_
  | refine L.loadArr rfl rfl (by assumption) rfl ?_
  | refine L.loadL rfl rfl rfl rfl ?_
  | refine L.load rfl rfl rfl rfl ?_
  | refine L.boxA rfl rfl rfl ?_
  | refine L.box1 rfl rfl rfl rfl ?_
  | refine L.alloc rfl rfl ?_
  | refine L.storeW rfl rfl rfl (by first | omega | (simp only [List.length_set]; omega)) ?_
  | refine L.store rfl rfl rfl rfl (by omega) ?_
  | refine L.storeArr rfl rfl rfl (by first | assumption | rfl) (by first | assumption | rfl) ?_
  | refine L.storeA rfl rfl rfl rfl rfl ?_
  | refine L.pick rfl rfl rfl ?_
  | refine L.minmax rfl rfl rfl rfl ?_
  | refine L.eqArr rfl rfl (by first | assumption | rfl) (by first | assumption | rfl) rfl rfl ?_
  | refine L.str rfl rfl (by omega) rfl ?_
  | refine L.cmpS rfl rfl rfl rfl ?_
  | refine L.make rfl rfl (by omega) (by omega) (by omega) rfl rfl ?_
  | refine L.bs1 rfl rfl rfl ?_
  | refine L.bs0 rfl rfl ?_
  | refine L.met rfl rfl rfl ?_
  | refine L.loadG rfl rfl (by kernel_rfl) rfl ?_))
          refine L.appNil rfl rfl rfl (by omega) (by omega) (by omega) (by omega) rfl rfl ?_
          repeat (first | refine Sp.seq ?_ | refine C.region ?_ | refine C.regionD (by kernel_rfl) ?_ | refine L.nil ?_ | refine L.nilD (by kernel_rfl) ?_ | (with_reducible refine C.next ?_) | refine Sp.block ?_ | refine Sp.skip ?_ | refine Sp.exit ?_ | (with_reducible refine C.bNormal ?_) | (with_reducible refine C.xSeq ?_) | (with_reducible refine C.xHit ?_) | (with_reducible refine C.xMiss rfl ?_) | (first
  | refine L.move rfl rfl ?_
  | refine L.assign rfl rfl ?_
  | refine L.bv rfl rfl rfl rfl ?_
  | refine L.shiftB rfl rfl rfl rfl ?_
  | refine L.shiftN rfl rfl rfl rfl ?_
  | refine L.bvCmp rfl rfl rfl rfl ?_
  | refine L.cmpN rfl rfl rfl rfl ?_
  | refine L.addN rfl rfl (by omega) rfl ?_
  | refine L.mulN rfl rfl (by omega) rfl ?_
  | refine L.subN rfl rfl (by omega) (by omega) rfl ?_
  | refine L.remN rfl rfl (by omega) rfl ?_
  | refine L.quoN rfl rfl (by omega) (by omega) rfl ?_
  | refine L.quoB rfl rfl (by decide) rfl ?_
  | refine L.not rfl rfl ?_
  | refine L.convB rfl rfl ?_
  | refine L.convN rfl rfl ?_
  | refine L.extract rfl rfl rfl rfl ?_
  | refine L.atA0 rfl rfl (by omega) rfl ?_
  | refine L.atA rfl rfl (by omega) rfl ?_
  | refine L.atA0s rfl rfl (by omega) rfl ?_
  | refine L.atS0 rfl rfl (by omega) rfl ?_
  | refine L.atS rfl rfl (by omega) rfl ?_
  | refine L.len rfl rfl ?_
  | refine L.lenNil rfl rfl ?_
  | refine L.slLo rfl rfl (by omega) rfl rfl ?_
  | refine L.slBoth rfl rfl rfl (by omega) (by omega) (by omega) rfl rfl ?_
  | refine L.slHi rfl rfl (by omega) rfl rfl ?_
  | refine L.slAll rfl rfl rfl ?_
  | refine L.indexW rfl rfl (by omega) (by omega) rfl ?_
  | refine L.loadW rfl rfl (by first | omega | (simp only [List.length_set]; omega)) rfl ?_
  | refine L.loadArr rfl rfl (by assumption) rfl ?_
  | refine L.loadL rfl rfl rfl rfl ?_
  | refine L.load rfl rfl rfl rfl ?_
  | refine L.boxA rfl rfl rfl ?_
  | refine L.box1 rfl rfl rfl rfl ?_
  | refine L.alloc rfl rfl ?_
  | refine L.storeW rfl rfl rfl (by first | omega | (simp only [List.length_set]; omega)) ?_
  | refine L.store rfl rfl rfl rfl (by omega) ?_
  | refine L.storeArr rfl rfl rfl (by first | assumption | rfl) (by first | assumption | rfl) ?_
  | refine L.storeA rfl rfl rfl rfl rfl ?_
  | refine L.pick rfl rfl rfl ?_
  | refine L.minmax rfl rfl rfl rfl ?_
  | refine L.eqArr rfl rfl (by first | assumption | rfl) (by first | assumption | rfl) rfl rfl ?_
  | refine L.str rfl rfl (by omega) rfl ?_
  | refine L.cmpS rfl rfl rfl rfl ?_
  | refine L.make rfl rfl (by omega) (by omega) (by omega) rfl rfl ?_
  | refine L.bs1 rfl rfl rfl ?_
  | refine L.bs0 rfl rfl ?_
  | refine L.met rfl rfl rfl ?_
  | refine L.loadG rfl rfl (by kernel_rfl) rfl ?_))
          refine ⟨0 + 1, by omega, by omega, ?_⟩
          show Weak _ _ ⟨5, [(12, .int .i64 ((0 + 1 : Nat) : Int)), (11, .slice (some ⟨4, 0, none⟩) 64 (capU + 1)), (9, .slice (some ⟨3, 0, none⟩) m m), (3, .int .i64 (m : Int)), (1, .int .u32 (nb c)), (4, .pointer (some ⟨0, 0, none⟩)), (6, .pointer (some ⟨1, 0, none⟩))],
            [(0, some (.cells (arr .u8 key) false true)), (1, some (.cells (arr .u8 nonce) false true)), (3, some (.cells (arr .u8 (xorTo key c nonce (List.replicate m 0#8) m m)) false true)), (4, some (.cells (arr .u8 (wantTo key c nonce 1)) true true))], []⟩
          rw [wantTo_one]
          refine weak_ren [(4, 6)] rfl rfl rfl ?_ ?_
          · repeat (first | exact AllFR.nil | refine AllFR.pl rfl ?_ | refine AllFR.ptr rfl rfl rfl ?_ | refine AllFR.sl rfl rfl rfl ?_)
          · repeat (first | exact AllMR.nil | refine AllMR.arr rfl rfl rfl ?_)
        · obtain rfl : m = 0 := by omega
          refine C.condF rfl (decide_eq_false hlt2) ?_
          repeat (first | refine Sp.seq ?_ | refine C.region ?_ | refine C.regionD (by kernel_rfl) ?_ | refine L.nil ?_ | refine L.nilD (by kernel_rfl) ?_ | (with_reducible refine C.next ?_) | refine Sp.block ?_ | refine Sp.skip ?_ | refine Sp.exit ?_ | (with_reducible refine C.bNormal ?_) | (with_reducible refine C.xSeq ?_) | (with_reducible refine C.xHit ?_) | (with_reducible refine C.xMiss rfl ?_) | (first
  | refine L.move rfl rfl ?_
  | refine L.assign rfl rfl ?_
  | refine L.bv rfl rfl rfl rfl ?_
  | refine L.shiftB rfl rfl rfl rfl ?_
  | refine L.shiftN rfl rfl rfl rfl ?_
  | refine L.bvCmp rfl rfl rfl rfl ?_
  | refine L.cmpN rfl rfl rfl rfl ?_
  | refine L.addN rfl rfl (by omega) rfl ?_
  | refine L.mulN rfl rfl (by omega) rfl ?_
  | refine L.subN rfl rfl (by omega) (by omega) rfl ?_
  | refine L.remN rfl rfl (by omega) rfl ?_
  | refine L.quoN rfl rfl (by omega) (by omega) rfl ?_
  | refine L.quoB rfl rfl (by decide) rfl ?_
  | refine L.not rfl rfl ?_
  | refine L.convB rfl rfl ?_
  | refine L.convN rfl rfl ?_
  | refine L.extract rfl rfl rfl rfl ?_
  | refine L.atA0 rfl rfl (by omega) rfl ?_
  | refine L.atA rfl rfl (by omega) rfl ?_
  | refine L.atA0s rfl rfl (by omega) rfl ?_
  | refine L.atS0 rfl rfl (by omega) rfl ?_
  | refine L.atS rfl rfl (by omega) rfl ?_
  | refine L.len rfl rfl ?_
  | refine L.lenNil rfl rfl ?_
  | refine L.slLo rfl rfl (by omega) rfl rfl ?_
  | refine L.slBoth rfl rfl rfl (by omega) (by omega) (by omega) rfl rfl ?_
  | refine L.slHi rfl rfl (by omega) rfl rfl ?_
  | refine L.slAll rfl rfl rfl ?_
  | refine L.indexW rfl rfl (by omega) (by omega) rfl ?_
  | refine L.loadW rfl rfl (by first | omega | (simp only [List.length_set]; omega)) rfl ?_
  | refine L.loadArr rfl rfl (by assumption) rfl ?_
  | refine L.loadL rfl rfl rfl rfl ?_
  | refine L.load rfl rfl rfl rfl ?_
  | refine L.boxA rfl rfl rfl ?_
  | refine L.box1 rfl rfl rfl rfl ?_
  | refine L.alloc rfl rfl ?_
  | refine L.storeW rfl rfl rfl (by first | omega | (simp only [List.length_set]; omega)) ?_
  | refine L.store rfl rfl rfl rfl (by omega) ?_
  | refine L.storeArr rfl rfl rfl (by first | assumption | rfl) (by first | assumption | rfl) ?_
  | refine L.storeA rfl rfl rfl rfl rfl ?_
  | refine L.pick rfl rfl rfl ?_
  | refine L.minmax rfl rfl rfl rfl ?_
  | refine L.eqArr rfl rfl (by first | assumption | rfl) (by first | assumption | rfl) rfl rfl ?_
  | refine L.str rfl rfl (by omega) rfl ?_
  | refine L.cmpS rfl rfl rfl rfl ?_
  | refine L.make rfl rfl (by omega) (by omega) (by omega) rfl rfl ?_
  | refine L.bs1 rfl rfl rfl ?_
  | refine L.bs0 rfl rfl ?_
  | refine L.met rfl rfl rfl ?_
  | refine L.loadG rfl rfl (by kernel_rfl) rfl ?_))
          refine L.ssNil rfl rfl (by omega) rfl ?_
          repeat (first | refine Sp.seq ?_ | refine C.region ?_ | refine C.regionD (by kernel_rfl) ?_ | refine L.nil ?_ | refine L.nilD (by kernel_rfl) ?_ | (with_reducible refine C.next ?_) | refine Sp.block ?_ | refine Sp.skip ?_ | refine Sp.exit ?_ | (with_reducible refine C.bNormal ?_) | (with_reducible refine C.xSeq ?_) | (with_reducible refine C.xHit ?_) | (with_reducible refine C.xMiss rfl ?_) | (first
  | refine L.move rfl rfl ?_
  | refine L.assign rfl rfl ?_
  | refine L.bv rfl rfl rfl rfl ?_
  | refine L.shiftB rfl rfl rfl rfl ?_
  | refine L.shiftN rfl rfl rfl rfl ?_
  | refine L.bvCmp rfl rfl rfl rfl ?_
  | refine L.cmpN rfl rfl rfl rfl ?_
  | refine L.addN rfl rfl (by omega) rfl ?_
  | refine L.mulN rfl rfl (by omega) rfl ?_
  | refine L.subN rfl rfl (by omega) (by omega) rfl ?_
  | refine L.remN rfl rfl (by omega) rfl ?_
  | refine L.quoN rfl rfl (by omega) (by omega) rfl ?_
  | refine L.quoB rfl rfl (by decide) rfl ?_
  | refine L.not rfl rfl ?_
  | refine L.convB rfl rfl ?_
  | refine L.convN rfl rfl ?_
  | refine L.extract rfl rfl rfl rfl ?_
  | refine L.atA0 rfl rfl (by omega) rfl ?_
  | refine L.atA rfl rfl (by omega) rfl ?_
  | refine L.atA0s rfl rfl (by omega) rfl ?_
  | refine L.atS0 rfl rfl (by omega) rfl ?_
  | refine L.atS rfl rfl (by omega) rfl ?_
  | refine L.len rfl rfl ?_
  | refine L.lenNil rfl rfl ?_
  | refine L.slLo rfl rfl (by omega) rfl rfl ?_
  | refine L.slBoth rfl rfl rfl (by omega) (by omega) (by omega) rfl rfl ?_
  | refine L.slHi rfl rfl (by omega) rfl rfl ?_
  | refine L.slAll rfl rfl rfl ?_
  | refine L.indexW rfl rfl (by omega) (by omega) rfl ?_
  | refine L.loadW rfl rfl (by first | omega | (simp only [List.length_set]; omega)) rfl ?_
  | refine L.loadArr rfl rfl (by assumption) rfl ?_
  | refine L.loadL rfl rfl rfl rfl ?_
  | refine L.load rfl rfl rfl rfl ?_
  | refine L.boxA rfl rfl rfl ?_
  | refine L.box1 rfl rfl rfl rfl ?_
  | refine L.alloc rfl rfl ?_
  | refine L.storeW rfl rfl rfl (by first | omega | (simp only [List.length_set]; omega)) ?_
  | refine L.store rfl rfl rfl rfl (by omega) ?_
  | refine L.storeArr rfl rfl rfl (by first | assumption | rfl) (by first | assumption | rfl) ?_
  | refine L.storeA rfl rfl rfl rfl rfl ?_
  | refine L.pick rfl rfl rfl ?_
  | refine L.minmax rfl rfl rfl rfl ?_
  | refine L.eqArr rfl rfl (by first | assumption | rfl) (by first | assumption | rfl) rfl rfl ?_
  | refine L.str rfl rfl (by omega) rfl ?_
  | refine L.cmpS rfl rfl rfl rfl ?_
  | refine L.make rfl rfl (by omega) (by omega) (by omega) rfl rfl ?_
  | refine L.bs1 rfl rfl rfl ?_
  | refine L.bs0 rfl rfl ?_
  | refine L.met rfl rfl rfl ?_
  | refine L.loadG rfl rfl (by kernel_rfl) rfl ?_))
          refine L.strNil rfl rfl ?_
          repeat (first | refine Sp.seq ?_ | refine C.region ?_ | refine C.regionD (by kernel_rfl) ?_ | refine L.nil ?_ | refine L.nilD (by kernel_rfl) ?_ | (with_reducible refine C.next ?_) | refine Sp.block ?_ | refine Sp.skip ?_ | refine Sp.exit ?_ | (with_reducible refine C.bNormal ?_) | (with_reducible refine C.xSeq ?_) | (with_reducible refine C.xHit ?_) | (with_reducible refine C.xMiss rfl ?_) | (first
  | refine L.move rfl rfl ?_
  | refine L.assign rfl rfl ?_
  | refine L.bv rfl rfl rfl rfl ?_
  | refine L.shiftB rfl rfl rfl rfl ?_
  | refine L.shiftN rfl rfl rfl rfl ?_
  | refine L.bvCmp rfl rfl rfl rfl ?_
  | refine L.cmpN rfl rfl rfl rfl ?_
  | refine L.addN rfl rfl (by omega) rfl ?_
  | refine L.mulN rfl rfl (by omega) rfl ?_
  | refine L.subN rfl rfl (by omega) (by omega) rfl ?_
  | refine L.remN rfl rfl (by omega) rfl ?_
  | refine L.quoN rfl rfl (by omega) (by omega) rfl ?_
  | refine L.quoB rfl rfl (by decide) rfl ?_
  | refine L.not rfl rfl ?_
  | refine L.convB rfl rfl ?_
  | refine L.convN rfl rfl ?_
  | refine L.extract rfl rfl rfl rfl ?_
  | refine L.atA0 rfl rfl (by omega) rfl ?_
  | refine L.atA rfl rfl (by omega) rfl ?_
  | refine L.atA0s rfl rfl (by omega) rfl ?_
  | refine L.atS0 rfl rfl (by omega) rfl ?_
  | refine L.atS rfl rfl (by omega) rfl ?_
  | refine L.len rfl rfl ?_
  | refine L.lenNil rfl rfl ?_
  | refine L.slLo rfl rfl (by omega) rfl rfl ?_
  | refine L.slBoth rfl rfl rfl (by omega) (by omega) (by omega) rfl rfl ?_
  | refine L.slHi rfl rfl (by omega) rfl rfl ?_
  | refine L.slAll rfl rfl rfl ?_
  | refine L.indexW rfl rfl (by omega) (by omega) rfl ?_
  | refine L.loadW rfl rfl (by first | omega | (simp only [List.length_set]; omega)) rfl ?_
  | refine L.loadArr rfl rfl (by assumption) rfl ?_
  | refine L.loadL rfl rfl rfl rfl ?_
  | refine L.load rfl rfl rfl rfl ?_
  | refine L.boxA rfl rfl rfl ?_
  | refine L.box1 rfl rfl rfl rfl ?_
  | refine L.alloc rfl rfl ?_
  | refine L.storeW rfl rfl rfl (by first | omega | (simp only [List.length_set]; omega)) ?_
  | refine L.store rfl rfl rfl rfl (by omega) ?_
  | refine L.storeArr rfl rfl rfl (by first | assumption | rfl) (by first | assumption | rfl) ?_
  | refine L.storeA rfl rfl rfl rfl rfl ?_
  | refine L.pick rfl rfl rfl ?_
  | refine L.minmax rfl rfl rfl rfl ?_
  | refine L.eqArr rfl rfl (by first | assumption | rfl) (by first | assumption | rfl) rfl rfl ?_
  | refine L.str rfl rfl (by omega) rfl ?_
  | refine L.cmpS rfl rfl rfl rfl ?_
  | refine L.make rfl rfl (by omega) (by omega) (by omega) rfl rfl ?_
  | refine L.bs1 rfl rfl rfl ?_
  | refine L.bs0 rfl rfl ?_
  | refine L.met rfl rfl rfl ?_
  | refine L.loadG rfl rfl (by kernel_rfl) rfl ?_))
          exact Sp.ret (retK.t1 [] rfl rfl (Less.nil _) ⟨congrArg Value.bool (by simp [str]), rfl⟩)
      | succ i =>
        have hw := wantTo_length key c nonce (i + 1)
        show Sp _ _ _ _ ⟨5, [(12, .int .i64 ((i + 1 : Nat) : Int)), (11, .slice (some ⟨4, 0, none⟩) (64 * (i + 1)) (capU + 1)), (9, .slice (some ⟨3, 0, none⟩) m m), (3, .int .i64 (m : Int)), (1, .int .u32 (nb c)), (4, .pointer (some ⟨0, 0, none⟩)), (6, .pointer (some ⟨1, 0, none⟩))],
          [(0, some (.cells (arr .u8 key) false true)), (1, some (.cells (arr .u8 nonce) false true)), (3, some (.cells (arr .u8 (xorTo key c nonce (List.replicate m 0#8) m m)) false true)), (4, some (.cells (arr .u8 (wantTo key c nonce (i + 1))) true true))], []⟩ _
        repeat (first | refine Sp.seq ?_ | refine C.region ?_ | refine C.regionD (by kernel_rfl) ?_ | refine L.nil ?_ | refine L.nilD (by kernel_rfl) ?_ | (with_reducible refine C.next ?_) | refine Sp.block ?_ | refine Sp.skip ?_ | refine Sp.exit ?_ | (with_reducible refine C.bNormal ?_) | (with_reducible refine C.xSeq ?_) | (with_reducible refine C.xHit ?_) | (with_reducible refine C.xMiss rfl ?_) | (first
  | refine L.move rfl rfl ?_
  | refine L.assign rfl rfl ?_
  | refine L.bv rfl rfl rfl rfl ?_
  | refine L.shiftB rfl rfl rfl rfl ?_
  | refine L.shiftN rfl rfl rfl rfl ?_
  | refine L.bvCmp rfl rfl rfl rfl ?_
  | refine L.cmpN rfl rfl rfl rfl ?_
  | refine L.addN rfl rfl (by omega) rfl ?_
  | refine L.mulN rfl rfl (by omega) rfl ?_
  | refine L.subN rfl rfl (by omega) (by omega) rfl ?_
  | refine L.remN rfl rfl (by omega) rfl ?_
  | refine L.quoN rfl rfl (by omega) (by omega) rfl ?_
  | refine L.quoB rfl rfl (by decide) rfl ?_
  | refine L.not rfl rfl ?_
  | refine L.convB rfl rfl ?_
  | refine L.convN rfl rfl ?_
  | refine L.extract rfl rfl rfl rfl ?_
  | refine L.atA0 rfl rfl (by omega) rfl ?_
  | refine L.atA rfl rfl (by omega) rfl ?_
  | refine L.atA0s rfl rfl (by omega) rfl ?_
  | refine L.atS0 rfl rfl (by omega) rfl ?_
  | refine L.atS rfl rfl (by omega) rfl ?_
  | refine L.len rfl rfl ?_
  | refine L.lenNil rfl rfl ?_
  | refine L.slLo rfl rfl (by omega) rfl rfl ?_
  | refine L.slBoth rfl rfl rfl (by omega) (by omega) (by omega) rfl rfl ?_
  | refine L.slHi rfl rfl (by omega) rfl rfl ?_
  | refine L.slAll rfl rfl rfl ?_
  | refine L.indexW rfl rfl (by omega) (by omega) rfl ?_
  | refine L.loadW rfl rfl (by first | omega | (simp only [List.length_set]; omega)) rfl ?_
  | refine L.loadArr rfl rfl (by assumption) rfl ?_
  | refine L.loadL rfl rfl rfl rfl ?_
  | refine L.load rfl rfl rfl rfl ?_
  | refine L.boxA rfl rfl rfl ?_
  | refine L.box1 rfl rfl rfl rfl ?_
  | refine L.alloc rfl rfl ?_
  | refine L.storeW rfl rfl rfl (by first | omega | (simp only [List.length_set]; omega)) ?_
  | refine L.store rfl rfl rfl rfl (by omega) ?_
  | refine L.storeArr rfl rfl rfl (by first | assumption | rfl) (by first | assumption | rfl) ?_
  | refine L.storeA rfl rfl rfl rfl rfl ?_
  | refine L.pick rfl rfl rfl ?_
  | refine L.minmax rfl rfl rfl rfl ?_
  | refine L.eqArr rfl rfl (by first | assumption | rfl) (by first | assumption | rfl) rfl rfl ?_
  | refine L.str rfl rfl (by omega) rfl ?_
  | refine L.cmpS rfl rfl rfl rfl ?_
  | refine L.make rfl rfl (by omega) (by omega) (by omega) rfl rfl ?_
  | refine L.bs1 rfl rfl rfl ?_
  | refine L.bs0 rfl rfl ?_
  | refine L.met rfl rfl rfl ?_
  | refine L.loadG rfl rfl (by kernel_rfl) rfl ?_))
        by_cases hlt2 : 64 * (i + 1) < m
        · refine C.condT rfl (decide_eq_true hlt2) ?_
          have hbl := block_length key (c + BitVec.ofNat 32 (i + 1)) nonce
          repeat (first | refine Sp.seq ?_ | refine C.region ?_ | refine C.regionD (by kernel_rfl) ?_ | refine L.nil ?_ | refine L.nilD (by kernel_rfl) ?_ | (with_reducible refine C.next ?_) | refine Sp.block ?_ | refine Sp.skip ?_ | refine Sp.exit ?_ | (with_reducible refine C.bNormal ?_) | (with_reducible refine C.xSeq ?_) | (with_reducible refine C.xHit ?_) | (with_reducible refine C.xMiss rfl ?_) | (first
  | refine L.move rfl rfl ?_
  | refine L.assign rfl rfl ?_
  | refine L.bv rfl rfl rfl rfl ?_
  | refine L.shiftB rfl rfl rfl rfl ?_
  | refine L.shiftN rfl rfl rfl rfl ?_
  | refine L.bvCmp rfl rfl rfl rfl ?_
  | refine L.cmpN rfl rfl rfl rfl ?_
  | refine L.addN rfl rfl (by omega) rfl ?_
  | refine L.mulN rfl rfl (by omega) rfl ?_
  | refine L.subN rfl rfl (by omega) (by omega) rfl ?_
  | refine L.remN rfl rfl (by omega) rfl ?_
  | refine L.quoN rfl rfl (by omega) (by omega) rfl ?_
  | refine L.quoB rfl rfl (by decide) rfl ?_
  | refine L.not rfl rfl ?_
  | refine L.convB rfl rfl ?_
  | refine L.convN rfl rfl ?_
  | refine L.extract rfl rfl rfl rfl ?_
  | refine L.atA0 rfl rfl (by omega) rfl ?_
  | refine L.atA rfl rfl (by omega) rfl ?_
  | refine L.atA0s rfl rfl (by omega) rfl ?_
  | refine L.atS0 rfl rfl (by omega) rfl ?_
  | refine L.atS rfl rfl (by omega) rfl ?_
  | refine L.len rfl rfl ?_
  | refine L.lenNil rfl rfl ?_
  | refine L.slLo rfl rfl (by omega) rfl rfl ?_
  | refine L.slBoth rfl rfl rfl (by omega) (by omega) (by omega) rfl rfl ?_
  | refine L.slHi rfl rfl (by omega) rfl rfl ?_
  | refine L.slAll rfl rfl rfl ?_
  | refine L.indexW rfl rfl (by omega) (by omega) rfl ?_
  | refine L.loadW rfl rfl (by first | omega | (simp only [List.length_set]; omega)) rfl ?_
  | refine L.loadArr rfl rfl (by assumption) rfl ?_
  | refine L.loadL rfl rfl rfl rfl ?_
  | refine L.load rfl rfl rfl rfl ?_
  | refine L.boxA rfl rfl rfl ?_
  | refine L.box1 rfl rfl rfl rfl ?_
  | refine L.alloc rfl rfl ?_
  | refine L.storeW rfl rfl rfl (by first | omega | (simp only [List.length_set]; omega)) ?_
  | refine L.store rfl rfl rfl rfl (by omega) ?_
  | refine L.storeArr rfl rfl rfl (by first | assumption | rfl) (by first | assumption | rfl) ?_
  | refine L.storeA rfl rfl rfl rfl rfl ?_
  | refine L.pick rfl rfl rfl ?_
  | refine L.minmax rfl rfl rfl rfl ?_
  | refine L.eqArr rfl rfl (by first | assumption | rfl) (by first | assumption | rfl) rfl rfl ?_
  | refine L.str rfl rfl (by omega) rfl ?_
  | refine L.cmpS rfl rfl rfl rfl ?_
  | refine L.make rfl rfl (by omega) (by omega) (by omega) rfl rfl ?_
  | refine L.bs1 rfl rfl rfl ?_
  | refine L.bs0 rfl rfl ?_
  | refine L.met rfl rfl rfl ?_
  | refine L.loadG rfl rfl (by kernel_rfl) rfl ?_))
          refine L.call0 (block_fn key nonce (c + BitVec.ofNat 32 (i + 1)) hk hn) rfl rfl ?_
          repeat (first | refine Sp.seq ?_ | refine C.region ?_ | refine C.regionD (by kernel_rfl) ?_ | refine L.nil ?_ | refine L.nilD (by kernel_rfl) ?_ | (with_reducible refine C.next ?_) | refine Sp.block ?_ | refine Sp.skip ?_ | refine Sp.exit ?_ | (with_reducible refine C.bNormal ?_) | (with_reducible refine C.xSeq ?_) | (with_reducible refine C.xHit ?_) | (with_reducible refine C.xMiss rfl ?_) | (first
  | refine L.move rfl rfl ?_
  | refine L.assign rfl rfl ?_
  | refine L.bv rfl rfl rfl rfl ?_
  | refine L.shiftB rfl rfl rfl rfl ?_
  | refine L.shiftN rfl rfl rfl rfl ?_
  | refine L.bvCmp rfl rfl rfl rfl ?_
  | refine L.cmpN rfl rfl rfl rfl ?_
  | refine L.addN rfl rfl (by omega) rfl ?_
  | refine L.mulN rfl rfl (by omega) rfl ?_
  | refine L.subN rfl rfl (by omega) (by omega) rfl ?_
  | refine L.remN rfl rfl (by omega) rfl ?_
  | refine L.quoN rfl rfl (by omega) (by omega) rfl ?_
  | refine L.quoB rfl rfl (by decide) rfl ?_
  | refine L.not rfl rfl ?_
  | refine L.convB rfl rfl ?_
  | refine L.convN rfl rfl ?_
  | refine L.extract rfl rfl rfl rfl ?_
  | refine L.atA0 rfl rfl (by omega) rfl ?_
  | refine L.atA rfl rfl (by omega) rfl ?_
  | refine L.atA0s rfl rfl (by omega) rfl ?_
  | refine L.atS0 rfl rfl (by omega) rfl ?_
  | refine L.atS rfl rfl (by omega) rfl ?_
  | refine L.len rfl rfl ?_
  | refine L.lenNil rfl rfl ?_
  | refine L.slLo rfl rfl (by omega) rfl rfl ?_
  | refine L.slBoth rfl rfl rfl (by omega) (by omega) (by omega) rfl rfl ?_
  | refine L.slHi rfl rfl (by omega) rfl rfl ?_
  | refine L.slAll rfl rfl rfl ?_
  | refine L.indexW rfl rfl (by omega) (by omega) rfl ?_
  | refine L.loadW rfl rfl (by first | omega | (simp only [List.length_set]; omega)) rfl ?_
  | refine L.loadArr rfl rfl (by assumption) rfl ?_
  | refine L.loadL rfl rfl rfl rfl ?_
  | refine L.load rfl rfl rfl rfl ?_
  | refine L.boxA rfl rfl rfl ?_
  | refine L.box1 rfl rfl rfl rfl ?_
  | refine L.alloc rfl rfl ?_
  | refine L.storeW rfl rfl rfl (by first | omega | (simp only [List.length_set]; omega)) ?_
  | refine L.store rfl rfl rfl rfl (by omega) ?_
  | refine L.storeArr rfl rfl rfl (by first | assumption | rfl) (by first | assumption | rfl) ?_
  | refine L.storeA rfl rfl rfl rfl rfl ?_
  | refine L.pick rfl rfl rfl ?_
  | refine L.minmax rfl rfl rfl rfl ?_
  | refine L.eqArr rfl rfl (by first | assumption | rfl) (by first | assumption | rfl) rfl rfl ?_
  | refine L.str rfl rfl (by omega) rfl ?_
  | refine L.cmpS rfl rfl rfl rfl ?_
  | refine L.make rfl rfl (by omega) (by omega) (by omega) rfl rfl ?_
  | refine L.bs1 rfl rfl rfl ?_
  | refine L.bs0 rfl rfl ?_
  | refine L.met rfl rfl rfl ?_
  | refine L.loadG rfl rfl (by kernel_rfl) rfl ?_))
          refine L.appU rfl rfl rfl rfl hw (by omega) rfl (by omega) (by omega) rfl rfl rfl ?_
          repeat (first | refine Sp.seq ?_ | refine C.region ?_ | refine C.regionD (by kernel_rfl) ?_ | refine L.nil ?_ | refine L.nilD (by kernel_rfl) ?_ | (with_reducible refine C.next ?_) | refine Sp.block ?_ | refine Sp.skip ?_ | refine Sp.exit ?_ | (with_reducible refine C.bNormal ?_) | (with_reducible refine C.xSeq ?_) | (with_reducible refine C.xHit ?_) | (with_reducible refine C.xMiss rfl ?_) | (first
  | refine L.move rfl rfl ?_
  | refine L.assign rfl rfl ?_
  | refine L.bv rfl rfl rfl rfl ?_
  | refine L.shiftB rfl rfl rfl rfl ?_
  | refine L.shiftN rfl rfl rfl rfl ?_
  | refine L.bvCmp rfl rfl rfl rfl ?_
  | refine L.cmpN rfl rfl rfl rfl ?_
  | refine L.addN rfl rfl (by omega) rfl ?_
  | refine L.mulN rfl rfl (by omega) rfl ?_
  | refine L.subN rfl rfl (by omega) (by omega) rfl ?_
  | refine L.remN rfl rfl (by omega) rfl ?_
  | refine L.quoN rfl rfl (by omega) (by omega) rfl ?_
  | refine L.quoB rfl rfl (by decide) rfl ?_
  | refine L.not rfl rfl ?_
  | refine L.convB rfl rfl ?_
  | refine L.convN rfl rfl ?_
  | refine L.extract rfl rfl rfl rfl ?_
  | refine L.atA0 rfl rfl (by omega) rfl ?_
  | refine L.atA rfl rfl (by omega) rfl ?_
  | refine L.atA0s rfl rfl (by omega) rfl ?_
  | refine L.atS0 rfl rfl (by omega) rfl ?_
  | refine L.atS rfl rfl (by omega) rfl ?_
  | refine L.len rfl rfl ?_
  | refine L.lenNil rfl rfl ?_
  | refine L.slLo rfl rfl (by omega) rfl rfl ?_
  | refine L.slBoth rfl rfl rfl (by omega) (by omega) (by omega) rfl rfl ?_
  | refine L.slHi rfl rfl (by omega) rfl rfl ?_
  | refine L.slAll rfl rfl rfl ?_
  | refine L.indexW rfl rfl (by omega) (by omega) rfl ?_
  | refine L.loadW rfl rfl (by first | omega | (simp only [List.length_set]; omega)) rfl ?_
  | refine L.loadArr rfl rfl (by assumption) rfl ?_
  | refine L.loadL rfl rfl rfl rfl ?_
  | refine L.load rfl rfl rfl rfl ?_
  | refine L.boxA rfl rfl rfl ?_
  | refine L.box1 rfl rfl rfl rfl ?_
  | refine L.alloc rfl rfl ?_
  | refine L.storeW rfl rfl rfl (by first | omega | (simp only [List.length_set]; omega)) ?_
  | refine L.store rfl rfl rfl rfl (by omega) ?_
  | refine L.storeArr rfl rfl rfl (by first | assumption | rfl) (by first | assumption | rfl) ?_
  | refine L.storeA rfl rfl rfl rfl rfl ?_
  | refine L.pick rfl rfl rfl ?_
  | refine L.minmax rfl rfl rfl rfl ?_
  | refine L.eqArr rfl rfl (by first | assumption | rfl) (by first | assumption | rfl) rfl rfl ?_
  | refine L.str rfl rfl (by omega) rfl ?_
  | refine L.cmpS rfl rfl rfl rfl ?_
  | refine L.make rfl rfl (by omega) (by omega) (by omega) rfl rfl ?_
  | refine L.bs1 rfl rfl rfl ?_
  | refine L.bs0 rfl rfl ?_
  | refine L.met rfl rfl rfl ?_
  | refine L.loadG rfl rfl (by kernel_rfl) rfl ?_))
          refine ⟨i + 1 + 1, by omega, by omega, ?_⟩
          show Weak _ _ ⟨5, [(12, .int .i64 ((i + 1 + 1 : Nat) : Int)), (11, .slice (some ⟨4, 0, none⟩) (64 * (i + 1) + 64) (capU + 1)), (9, .slice (some ⟨3, 0, none⟩) m m), (3, .int .i64 (m : Int)), (1, .int .u32 (nb c)), (4, .pointer (some ⟨0, 0, none⟩)), (6, .pointer (some ⟨1, 0, none⟩))],
            [(0, some (.cells (arr .u8 key) false true)), (1, some (.cells (arr .u8 nonce) false true)), (3, some (.cells (arr .u8 (xorTo key c nonce (List.replicate m 0#8) m m)) false true)), (4, some (.cells (arr .u8 (wantTo key c nonce (i + 1 + 1))) true true))], []⟩
          rw [wantTo_succ key c nonce (i + 1)]
          refine weak_ren [(4, 6)] rfl rfl rfl ?_ ?_
          · repeat (first | exact AllFR.nil | refine AllFR.pl rfl ?_ | refine AllFR.ptr rfl rfl rfl ?_ | refine AllFR.sl rfl rfl rfl ?_)
          · repeat (first | exact AllMR.nil | refine AllMR.arr rfl rfl rfl ?_)
        · refine C.condF rfl (decide_eq_false hlt2) ?_
          repeat (first | refine Sp.seq ?_ | refine C.region ?_ | refine C.regionD (by kernel_rfl) ?_ | refine L.nil ?_ | refine L.nilD (by kernel_rfl) ?_ | (with_reducible refine C.next ?_) | refine Sp.block ?_ | refine Sp.skip ?_ | refine Sp.exit ?_ | (with_reducible refine C.bNormal ?_) | (with_reducible refine C.xSeq ?_) | (with_reducible refine C.xHit ?_) | (with_reducible refine C.xMiss rfl ?_) | (first
  | refine L.move rfl rfl ?_
  | refine L.assign rfl rfl ?_
  | refine L.bv rfl rfl rfl rfl ?_
  | refine L.shiftB rfl rfl rfl rfl ?_
  | refine L.shiftN rfl rfl rfl rfl ?_
  | refine L.bvCmp rfl rfl rfl rfl ?_
  | refine L.cmpN rfl rfl rfl rfl ?_
  | refine L.addN rfl rfl (by omega) rfl ?_
  | refine L.mulN rfl rfl (by omega) rfl ?_
  | refine L.subN rfl rfl (by omega) (by omega) rfl ?_
  | refine L.remN rfl rfl (by omega) rfl ?_
  | refine L.quoN rfl rfl (by omega) (by omega) rfl ?_
  | refine L.quoB rfl rfl (by decide) rfl ?_
  | refine L.not rfl rfl ?_
  | refine L.convB rfl rfl ?_
  | refine L.convN rfl rfl ?_
  | refine L.extract rfl rfl rfl rfl ?_
  | refine L.atA0 rfl rfl (by omega) rfl ?_
  | refine L.atA rfl rfl (by omega) rfl ?_
  | refine L.atA0s rfl rfl (by omega) rfl ?_
  | refine L.atS0 rfl rfl (by omega) rfl ?_
  | refine L.atS rfl rfl (by omega) rfl ?_
  | refine L.len rfl rfl ?_
  | refine L.lenNil rfl rfl ?_
  | refine L.slLo rfl rfl (by omega) rfl rfl ?_
  | refine L.slBoth rfl rfl rfl (by omega) (by omega) (by omega) rfl rfl ?_
  | refine L.slHi rfl rfl (by omega) rfl rfl ?_
  | refine L.slAll rfl rfl rfl ?_
  | refine L.indexW rfl rfl (by omega) (by omega) rfl ?_
  | refine L.loadW rfl rfl (by first | omega | (simp only [List.length_set]; omega)) rfl ?_
  | refine L.loadArr rfl rfl (by assumption) rfl ?_
  | refine L.loadL rfl rfl rfl rfl ?_
  | refine L.load rfl rfl rfl rfl ?_
  | refine L.boxA rfl rfl rfl ?_
  | refine L.box1 rfl rfl rfl rfl ?_
  | refine L.alloc rfl rfl ?_
  | refine L.storeW rfl rfl rfl (by first | omega | (simp only [List.length_set]; omega)) ?_
  | refine L.store rfl rfl rfl rfl (by omega) ?_
  | refine L.storeArr rfl rfl rfl (by first | assumption | rfl) (by first | assumption | rfl) ?_
  | refine L.storeA rfl rfl rfl rfl rfl ?_
  | refine L.pick rfl rfl rfl ?_
  | refine L.minmax rfl rfl rfl rfl ?_
  | refine L.eqArr rfl rfl (by first | assumption | rfl) (by first | assumption | rfl) rfl rfl ?_
  | refine L.str rfl rfl (by omega) rfl ?_
  | refine L.cmpS rfl rfl rfl rfl ?_
  | refine L.make rfl rfl (by omega) (by omega) (by omega) rfl rfl ?_
  | refine L.bs1 rfl rfl rfl ?_
  | refine L.bs0 rfl rfl ?_
  | refine L.met rfl rfl rfl ?_
  | refine L.loadG rfl rfl (by kernel_rfl) rfl ?_))
          refine L.ssHiU rfl rfl rfl (by rw [arr_size]; omega) rfl ?_
          repeat (first | refine Sp.seq ?_ | refine C.region ?_ | refine C.regionD (by kernel_rfl) ?_ | refine L.nil ?_ | refine L.nilD (by kernel_rfl) ?_ | (with_reducible refine C.next ?_) | refine Sp.block ?_ | refine Sp.skip ?_ | refine Sp.exit ?_ | (with_reducible refine C.bNormal ?_) | (with_reducible refine C.xSeq ?_) | (with_reducible refine C.xHit ?_) | (with_reducible refine C.xMiss rfl ?_) | (first
  | refine L.move rfl rfl ?_
  | refine L.assign rfl rfl ?_
  | refine L.bv rfl rfl rfl rfl ?_
  | refine L.shiftB rfl rfl rfl rfl ?_
  | refine L.shiftN rfl rfl rfl rfl ?_
  | refine L.bvCmp rfl rfl rfl rfl ?_
  | refine L.cmpN rfl rfl rfl rfl ?_
  | refine L.addN rfl rfl (by omega) rfl ?_
  | refine L.mulN rfl rfl (by omega) rfl ?_
  | refine L.subN rfl rfl (by omega) (by omega) rfl ?_
  | refine L.remN rfl rfl (by omega) rfl ?_
  | refine L.quoN rfl rfl (by omega) (by omega) rfl ?_
  | refine L.quoB rfl rfl (by decide) rfl ?_
  | refine L.not rfl rfl ?_
  | refine L.convB rfl rfl ?_
  | refine L.convN rfl rfl ?_
  | refine L.extract rfl rfl rfl rfl ?_
  | refine L.atA0 rfl rfl (by omega) rfl ?_
  | refine L.atA rfl rfl (by omega) rfl ?_
  | refine L.atA0s rfl rfl (by omega) rfl ?_
  | refine L.atS0 rfl rfl (by omega) rfl ?_
  | refine L.atS rfl rfl (by omega) rfl ?_
  | refine L.len rfl rfl ?_
  | refine L.lenNil rfl rfl ?_
  | refine L.slLo rfl rfl (by omega) rfl rfl ?_
  | refine L.slBoth rfl rfl rfl (by omega) (by omega) (by omega) rfl rfl ?_
  | refine L.slHi rfl rfl (by omega) rfl rfl ?_
  | refine L.slAll rfl rfl rfl ?_
  | refine L.indexW rfl rfl (by omega) (by omega) rfl ?_
  | refine L.loadW rfl rfl (by first | omega | (simp only [List.length_set]; omega)) rfl ?_
  | refine L.loadArr rfl rfl (by assumption) rfl ?_
  | refine L.loadL rfl rfl rfl rfl ?_
  | refine L.load rfl rfl rfl rfl ?_
  | refine L.boxA rfl rfl rfl ?_
  | refine L.box1 rfl rfl rfl rfl ?_
  | refine L.alloc rfl rfl ?_
  | refine L.storeW rfl rfl rfl (by first | omega | (simp only [List.length_set]; omega)) ?_
  | refine L.store rfl rfl rfl rfl (by omega) ?_
  | refine L.storeArr rfl rfl rfl (by first | assumption | rfl) (by first | assumption | rfl) ?_
  | refine L.storeA rfl rfl rfl rfl rfl ?_
  | refine L.pick rfl rfl rfl ?_
  | refine L.minmax rfl rfl rfl rfl ?_
  | refine L.eqArr rfl rfl (by first | assumption | rfl) (by first | assumption | rfl) rfl rfl ?_
  | refine L.str rfl rfl (by omega) rfl ?_
  | refine L.cmpS rfl rfl rfl rfl ?_
  | refine L.make rfl rfl (by omega) (by omega) (by omega) rfl rfl ?_
  | refine L.bs1 rfl rfl rfl ?_
  | refine L.bs0 rfl rfl ?_
  | refine L.met rfl rfl rfl ?_
  | refine L.loadG rfl rfl (by kernel_rfl) rfl ?_))
          exact Sp.ret (retK.t1 [] rfl rfl (Less.nil _) ⟨congrArg Value.bool (by rw [rows_eq key c nonce m (i + 1) (by omega)]; exact beq_self_eq_true _), rfl⟩)
theorem rows_any (key : List (BitVec 8)) (c : BitVec 32) (nonce : List (BitVec 8)) (n : Int) (hk : key.length = 32) (hn : nonce.length = 12) (W : World) (hcol : ColsAt W) (_hb : -9223372036854775808 ≤ n ∧ n ≤ 9223372036854775807) :
    Calls Tryd.prog 8 #[.agg (arr .u8 key), .int .u32 (nb c), .agg (arr .u8 nonce), .int .i64 n] W fun e W' => e = .returned (.bool true) ∧ Go.RowKit.Below W.heap.size W W' :=
  Fc.calls (rows_fn key nonce c n hk hn) W (tab_of_cols hcol) (fun v m h => h.1) (fun E u h => h)
end Go.Proofs.YtbfakdpnefhgkaaDoor
