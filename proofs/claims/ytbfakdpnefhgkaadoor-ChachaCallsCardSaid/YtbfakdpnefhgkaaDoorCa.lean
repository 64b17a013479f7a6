/-
  The walk of ChachaCalls.
-/
import Derived.Test.YtbfakdpnefhgkaaDoorLv
import Derived.Test.YtbfakdpnefhgkaaDoorXo
import Derived.Test.YtbfakdpnefhgkaaDoorRx
import Derived.Test.YtbfakdpnefhgkaaDoorKt
import Derived.Test.YtbfakdpnefhgkaaDoorLa
import Derived.Test.YtbfakdpnefhgkaaDoorOb
set_option linter.unusedSimpArgs false
set_option linter.unusedVariables false
namespace Go.Proofs.YtbfakdpnefhgkaaDoor
open Sl Mem Bv
theorem take0 (l : List (BitVec 8)) (n : Nat) (h : l.length = n) : (l.drop 0).take n = l := by
  rw [List.drop_zero, ← h, List.take_length]
set_option maxHeartbeats 8000000 in
theorem calls_sl (w : List (BitVec 32)) (key : List (BitVec 8)) (c : BitVec 32) (nonce b : List (BitVec 8)) (n cp : Nat) (hw : w.length = 16) (hk : key.length = 32) (hn : nonce.length = 12) (hb : n ≤ b.length) : Fc Tryd.prog 6 1 [.agg (arr .u32 w), .agg (arr .u8 key), .int .u32 (nb c), .agg (arr .u8 nonce), .slice (some ⟨0, 0, none⟩) n cp] (roM 0 [⟨8, .u8, b⟩]) (fun v m => v = .bool true ∧ m = []) := by
  have hr8 : (round w).length = 16 := (roundTo_length 8 w).trans hw
  have hs1 := state_length key c nonce
  have hb1 := block_length key c nonce
  have hbt : (b.take n).length = n := by rw [List.length_take]; omega
  refine Fc.enter (N := 132) (fn := Tryd.f6) (rs := _) Tryd.func6 rfl Tryd.results6 rfl ?_
  repeat (first | refine Sp.seq ?_ | refine C.region ?_ | refine C.regionD (by kernel_rfl) ?_ | refine L.nil ?_ | refine L.nilD (by kernel_rfl) ?_ | (with_reducible refine C.next ?_) | refine Sp.block ?_ | refine Sp.skip ?_ | refine Sp.exit ?_ | (with_reducible refine C.bNormal ?_) | (with_reducible refine C.xSeq ?_) | (with_reducible refine C.xHit ?_) | (with_reducible refine C.xMiss rfl ?_) | (first
  | refine L.move rfl rfl ?_
  | refine L.assign rfl rfl ?_
  | refine L.bv rfl rfl rfl rfl ?_
  | refine L.shiftB rfl rfl rfl rfl ?_
  | refine L.shiftN rfl rfl rfl rfl ?_
  | refine L.bvCmp rfl rfl rfl rfl ?_
  | refine L.cmpN rfl rfl rfl rfl ?_
  | refine L.addN rfl rfl (by omega) rfl ?_
  | refine L.mulN rfl rfl (by omega) rfl ?_
  | refine L.subN rfl rfl (by omega) (by omega) rfl ?_
  | refine L.remN rfl rfl (by omega) rfl ?_
  | refine L.quoN rfl rfl (by omega) (by omega) rfl ?_
  | refine L.quoB rfl rfl (by decide) rfl ?_
  | refine L.not rfl rfl ?_
  | refine L.convB rfl rfl ?_
  | refine L.convN rfl rfl ?_
  | refine L.extract rfl rfl rfl rfl ?_
  | refine L.atA0 rfl rfl (by omega) rfl ?_
  | refine L.atA rfl rfl (by omega) rfl ?_
  | refine L.atA0s rfl rfl (by omega) rfl ?_
  | refine L.atS0 rfl rfl (by omega) rfl ?_
  | refine L.atS rfl rfl (by omega) rfl ?_
  | refine L.atS0s rfl rfl (by omega) rfl ?_
  | refine L.len rfl rfl ?_
  | refine L.lenNil rfl rfl ?_
  | refine L.slLo rfl rfl (by omega) rfl rfl ?_
  | refine L.slBoth rfl rfl rfl (by omega) (by omega) (by omega) rfl rfl ?_
  | refine L.slHi rfl rfl (by omega) rfl rfl ?_
  | refine L.slAll rfl rfl rfl ?_
  | refine L.indexW rfl rfl (by omega) (by omega) rfl ?_
  | refine L.loadW rfl rfl (by first | omega | (simp only [List.length_set]; omega)) rfl ?_
  | refine L.loadArr rfl rfl (by assumption) rfl ?_
  | refine L.loadL rfl rfl rfl rfl ?_
  | refine L.load rfl rfl rfl rfl ?_
  | refine L.boxA rfl rfl rfl ?_
  | refine L.box1 rfl rfl rfl rfl ?_
  | refine L.alloc rfl rfl ?_
  | refine L.storeW rfl rfl rfl (by first | omega | (simp only [List.length_set]; omega)) ?_
  | refine L.store rfl rfl rfl rfl (by omega) ?_
  | refine L.storeArr rfl rfl rfl (by first | assumption | rfl) (by first | assumption | rfl) ?_
  | refine L.storeA rfl rfl rfl rfl rfl ?_
  | refine L.pick rfl rfl rfl ?_
  | refine L.minmax rfl rfl rfl rfl ?_
  | refine L.eqArr rfl rfl (by first | assumption | rfl) (by first | assumption | rfl) rfl rfl ?_
  | refine L.str rfl rfl (by omega) rfl ?_
  | refine L.strNil rfl rfl ?_
  | refine L.cmpS rfl rfl rfl rfl ?_
  | refine L.make rfl rfl (by omega) (by omega) (by omega) rfl rfl ?_
  | refine L.bs1 rfl rfl rfl ?_
  | refine L.bs0 rfl rfl ?_
  | refine L.met rfl rfl rfl ?_
  | refine L.loadG rfl rfl (by kernel_rfl) rfl ?_))
  refine L.call0 lives_fn rfl rfl ?_
  repeat (first | refine Sp.seq ?_ | refine C.region ?_ | refine C.regionD (by kernel_rfl) ?_ | refine L.nil ?_ | refine L.nilD (by kernel_rfl) ?_ | (with_reducible refine C.next ?_) | refine Sp.block ?_ | refine Sp.skip ?_ | refine Sp.exit ?_ | (with_reducible refine C.bNormal ?_) | (with_reducible refine C.xSeq ?_) | (with_reducible refine C.xHit ?_) | (with_reducible refine C.xMiss rfl ?_) | (first
  | refine L.move rfl rfl ?_
  | refine L.assign rfl rfl ?_
  | refine L.bv rfl rfl rfl rfl ?_
  | refine L.shiftB rfl rfl rfl rfl ?_
  | refine L.shiftN rfl rfl rfl rfl ?_
  | refine L.bvCmp rfl rfl rfl rfl ?_
  | refine L.cmpN rfl rfl rfl rfl ?_
  | refine L.addN rfl rfl (by omega) rfl ?_
  | refine L.mulN rfl rfl (by omega) rfl ?_
  | refine L.subN rfl rfl (by omega) (by omega) rfl ?_
  | refine L.remN rfl rfl (by omega) rfl ?_
  | refine L.quoN rfl rfl (by omega) (by omega) rfl ?_
  | refine L.quoB rfl rfl (by decide) rfl ?_
  | refine L.not rfl rfl ?_
  | refine L.convB rfl rfl ?_
  | refine L.convN rfl rfl ?_
  | refine L.extract rfl rfl rfl rfl ?_
  | refine L.atA0 rfl rfl (by omega) rfl ?_
  | refine L.atA rfl rfl (by omega) rfl ?_
  | refine L.atA0s rfl rfl (by omega) rfl ?_
  | refine L.atS0 rfl rfl (by omega) rfl ?_
  | refine L.atS rfl rfl (by omega) rfl ?_
  | refine L.atS0s rfl rfl (by omega) rfl ?_
  | refine L.len rfl rfl ?_
  | refine L.lenNil rfl rfl ?_
  | refine L.slLo rfl rfl (by omega) rfl rfl ?_
  | refine L.slBoth rfl rfl rfl (by omega) (by omega) (by omega) rfl rfl ?_
  | refine L.slHi rfl rfl (by omega) rfl rfl ?_
  | refine L.slAll rfl rfl rfl ?_
  | refine L.indexW rfl rfl (by omega) (by omega) rfl ?_
  | refine L.loadW rfl rfl (by first | omega | (simp only [List.length_set]; omega)) rfl ?_
  | refine L.loadArr rfl rfl (by assumption) rfl ?_
  | refine L.loadL rfl rfl rfl rfl ?_
  | refine L.load rfl rfl rfl rfl ?_
  | refine L.boxA rfl rfl rfl ?_
  | refine L.box1 rfl rfl rfl rfl ?_
  | refine L.alloc rfl rfl ?_
  | refine L.storeW rfl rfl rfl (by first | omega | (simp only [List.length_set]; omega)) ?_
  | refine L.store rfl rfl rfl rfl (by omega) ?_
  | refine L.storeArr rfl rfl rfl (by first | assumption | rfl) (by first | assumption | rfl) ?_
  | refine L.storeA rfl rfl rfl rfl rfl ?_
  | refine L.pick rfl rfl rfl ?_
  | refine L.minmax rfl rfl rfl rfl ?_
  | refine L.eqArr rfl rfl (by first | assumption | rfl) (by first | assumption | rfl) rfl rfl ?_
  | refine L.str rfl rfl (by omega) rfl ?_
  | refine L.strNil rfl rfl ?_
  | refine L.cmpS rfl rfl rfl rfl ?_
  | refine L.make rfl rfl (by omega) (by omega) (by omega) rfl rfl ?_
  | refine L.bs1 rfl rfl rfl ?_
  | refine L.bs0 rfl rfl ?_
  | refine L.met rfl rfl rfl ?_
  | refine L.loadG rfl rfl (by kernel_rfl) rfl ?_))
  refine C.condF rfl rfl ?_
  repeat (first | refine Sp.seq ?_ | refine C.region ?_ | refine C.regionD (by kernel_rfl) ?_ | refine L.nil ?_ | refine L.nilD (by kernel_rfl) ?_ | (with_reducible refine C.next ?_) | refine Sp.block ?_ | refine Sp.skip ?_ | refine Sp.exit ?_ | (with_reducible refine C.bNormal ?_) | (with_reducible refine C.xSeq ?_) | (with_reducible refine C.xHit ?_) | (with_reducible refine C.xMiss rfl ?_) | (first
  | refine L.move rfl rfl ?_
  | refine L.assign rfl rfl ?_
  | refine L.bv rfl rfl rfl rfl ?_
  | refine L.shiftB rfl rfl rfl rfl ?_
  | refine L.shiftN rfl rfl rfl rfl ?_
  | refine L.bvCmp rfl rfl rfl rfl ?_
  | refine L.cmpN rfl rfl rfl rfl ?_
  | refine L.addN rfl rfl (by omega) rfl ?_
  | refine L.mulN rfl rfl (by omega) rfl ?_
  | refine L.subN rfl rfl (by omega) (by omega) rfl ?_
  | refine L.remN rfl rfl (by omega) rfl ?_
  | refine L.quoN rfl rfl (by omega) (by omega) rfl ?_
  | refine L.quoB rfl rfl (by decide) rfl ?_
  | refine L.not rfl rfl ?_
  | refine L.convB rfl rfl ?_
  | refine L.convN rfl rfl ?_
  | refine L.extract rfl rfl rfl rfl ?_
  | refine L.atA0 rfl rfl (by omega) rfl ?_
  | refine L.atA rfl rfl (by omega) rfl ?_
  | refine L.atA0s rfl rfl (by omega) rfl ?_
  | refine L.atS0 rfl rfl (by omega) rfl ?_
  | refine L.atS rfl rfl (by omega) rfl ?_
  | refine L.atS0s rfl rfl (by omega) rfl ?_
  | refine L.len rfl rfl ?_
  | refine L.lenNil rfl rfl ?_
  | refine L.slLo rfl rfl (by omega) rfl rfl ?_
  | refine L.slBoth rfl rfl rfl (by omega) (by omega) (by omega) rfl rfl ?_
  | refine L.slHi rfl rfl (by omega) rfl rfl ?_
  | refine L.slAll rfl rfl rfl ?_
  | refine L.indexW rfl rfl (by omega) (by omega) rfl ?_
  | refine L.loadW rfl rfl (by first | omega | (simp only [List.length_set]; omega)) rfl ?_
  | refine L.loadArr rfl rfl (by assumption) rfl ?_
  | refine L.loadL rfl rfl rfl rfl ?_
  | refine L.load rfl rfl rfl rfl ?_
  | refine L.boxA rfl rfl rfl ?_
  | refine L.box1 rfl rfl rfl rfl ?_
  | refine L.alloc rfl rfl ?_
  | refine L.storeW rfl rfl rfl (by first | omega | (simp only [List.length_set]; omega)) ?_
  | refine L.store rfl rfl rfl rfl (by omega) ?_
  | refine L.storeArr rfl rfl rfl (by first | assumption | rfl) (by first | assumption | rfl) ?_
  | refine L.storeA rfl rfl rfl rfl rfl ?_
  | refine L.pick rfl rfl rfl ?_
  | refine L.minmax rfl rfl rfl rfl ?_
  | refine L.eqArr rfl rfl (by first | assumption | rfl) (by first | assumption | rfl) rfl rfl ?_
  | refine L.str rfl rfl (by omega) rfl ?_
  | refine L.strNil rfl rfl ?_
  | refine L.cmpS rfl rfl rfl rfl ?_
  | refine L.make rfl rfl (by omega) (by omega) (by omega) rfl rfl ?_
  | refine L.bs1 rfl rfl rfl ?_
  | refine L.bs0 rfl rfl ?_
  | refine L.met rfl rfl rfl ?_
  | refine L.loadG rfl rfl (by kernel_rfl) rfl ?_))
  by_cases h3 : 300 < n
  · refine C.condT rfl (decide_eq_true h3) ?_
    repeat (first | refine Sp.seq ?_ | refine C.region ?_ | refine C.regionD (by kernel_rfl) ?_ | refine L.nil ?_ | refine L.nilD (by kernel_rfl) ?_ | (with_reducible refine C.next ?_) | refine Sp.block ?_ | refine Sp.skip ?_ | refine Sp.exit ?_ | (with_reducible refine C.bNormal ?_) | (with_reducible refine C.xSeq ?_) | (with_reducible refine C.xHit ?_) | (with_reducible refine C.xMiss rfl ?_) | (first
  | refine L.move rfl rfl ?_
  | refine L.assign rfl rfl ?_
  | refine L.bv rfl rfl rfl rfl ?_
  | refine L.shiftB rfl rfl rfl rfl ?_
  | refine L.shiftN rfl rfl rfl rfl ?_
  | refine L.bvCmp rfl rfl rfl rfl ?_
  | refine L.cmpN rfl rfl rfl rfl ?_
  | refine L.addN rfl rfl (by omega) rfl ?_
  | refine L.mulN rfl rfl (by omega) rfl ?_
  | refine L.subN rfl rfl (by omega) (by omega) rfl ?_
  | refine L.remN rfl rfl (by omega) rfl ?_
  | refine L.quoN rfl rfl (by omega) (by omega) rfl ?_
  | refine L.quoB rfl rfl (by decide) rfl ?_
  | refine L.not rfl rfl ?_
  | refine L.convB rfl rfl ?_
  | refine L.convN rfl rfl ?_
  | refine L.extract rfl rfl rfl rfl ?_
  | refine L.atA0 rfl rfl (by omega) rfl ?_
  | refine L.atA rfl rfl (by omega) rfl ?_
  | refine L.atA0s rfl rfl (by omega) rfl ?_
  | refine L.atS0 rfl rfl (by omega) rfl ?_
  | refine L.atS rfl rfl (by omega) rfl ?_
  | refine L.atS0s rfl rfl (by omega) rfl ?_
  | refine L.len rfl rfl ?_
  | refine L.lenNil rfl rfl ?_
  | refine L.slLo rfl rfl (by omega) rfl rfl ?_
  | refine L.slBoth rfl rfl rfl (by omega) (by omega) (by omega) rfl rfl ?_
  | refine L.slHi rfl rfl (by omega) rfl rfl ?_
  | refine L.slAll rfl rfl rfl ?_
  | refine L.indexW rfl rfl (by omega) (by omega) rfl ?_
  | refine L.loadW rfl rfl (by first | omega | (simp only [List.length_set]; omega)) rfl ?_
  | refine L.loadArr rfl rfl (by assumption) rfl ?_
  | refine L.loadL rfl rfl rfl rfl ?_
  | refine L.load rfl rfl rfl rfl ?_
  | refine L.boxA rfl rfl rfl ?_
  | refine L.box1 rfl rfl rfl rfl ?_
  | refine L.alloc rfl rfl ?_
  | refine L.storeW rfl rfl rfl (by first | omega | (simp only [List.length_set]; omega)) ?_
  | refine L.store rfl rfl rfl rfl (by omega) ?_
  | refine L.storeArr rfl rfl rfl (by first | assumption | rfl) (by first | assumption | rfl) ?_
  | refine L.storeA rfl rfl rfl rfl rfl ?_
  | refine L.pick rfl rfl rfl ?_
  | refine L.minmax rfl rfl rfl rfl ?_
  | refine L.eqArr rfl rfl (by first | assumption | rfl) (by first | assumption | rfl) rfl rfl ?_
  | refine L.str rfl rfl (by omega) rfl ?_
  | refine L.strNil rfl rfl ?_
  | refine L.cmpS rfl rfl rfl rfl ?_
  | refine L.make rfl rfl (by omega) (by omega) (by omega) rfl rfl ?_
  | refine L.bs1 rfl rfl rfl ?_
  | refine L.bs0 rfl rfl ?_
  | refine L.met rfl rfl rfl ?_
  | refine L.loadG rfl rfl (by kernel_rfl) rfl ?_))
    exact Sp.ret (C.rSeq (retK.t1 [] rfl rfl (Less.nil _) ⟨rfl, rfl⟩))
  · refine C.condF rfl (decide_eq_false h3) ?_
    repeat (first | refine Sp.seq ?_ | refine C.region ?_ | refine C.regionD (by kernel_rfl) ?_ | refine L.nil ?_ | refine L.nilD (by kernel_rfl) ?_ | (with_reducible refine C.next ?_) | refine Sp.block ?_ | refine Sp.skip ?_ | refine Sp.exit ?_ | (with_reducible refine C.bNormal ?_) | (with_reducible refine C.xSeq ?_) | (with_reducible refine C.xHit ?_) | (with_reducible refine C.xMiss rfl ?_) | (first
  | refine L.move rfl rfl ?_
  | refine L.assign rfl rfl ?_
  | refine L.bv rfl rfl rfl rfl ?_
  | refine L.shiftB rfl rfl rfl rfl ?_
  | refine L.shiftN rfl rfl rfl rfl ?_
  | refine L.bvCmp rfl rfl rfl rfl ?_
  | refine L.cmpN rfl rfl rfl rfl ?_
  | refine L.addN rfl rfl (by omega) rfl ?_
  | refine L.mulN rfl rfl (by omega) rfl ?_
  | refine L.subN rfl rfl (by omega) (by omega) rfl ?_
  | refine L.remN rfl rfl (by omega) rfl ?_
  | refine L.quoN rfl rfl (by omega) (by omega) rfl ?_
  | refine L.quoB rfl rfl (by decide) rfl ?_
  | refine L.not rfl rfl ?_
  | refine L.convB rfl rfl ?_
  | refine L.convN rfl rfl ?_
  | refine L.extract rfl rfl rfl rfl ?_
  | refine L.atA0 rfl rfl (by omega) rfl ?_
  | refine L.atA rfl rfl (by omega) rfl ?_
  | refine L.atA0s rfl rfl (by omega) rfl ?_
  | refine L.atS0 rfl rfl (by omega) rfl ?_
  | refine L.atS rfl rfl (by omega) rfl ?_
  | refine L.atS0s rfl rfl (by omega) rfl ?_
  | refine L.len rfl rfl ?_
  | refine L.lenNil rfl rfl ?_
  | refine L.slLo rfl rfl (by omega) rfl rfl ?_
  | refine L.slBoth rfl rfl rfl (by omega) (by omega) (by omega) rfl rfl ?_
  | refine L.slHi rfl rfl (by omega) rfl rfl ?_
  | refine L.slAll rfl rfl rfl ?_
  | refine L.indexW rfl rfl (by omega) (by omega) rfl ?_
  | refine L.loadW rfl rfl (by first | omega | (simp only [List.length_set]; omega)) rfl ?_
  | refine L.loadArr rfl rfl (by assumption) rfl ?_
  | refine L.loadL rfl rfl rfl rfl ?_
  | refine L.load rfl rfl rfl rfl ?_
  | refine L.boxA rfl rfl rfl ?_
  | refine L.box1 rfl rfl rfl rfl ?_
  | refine L.alloc rfl rfl ?_
  | refine L.storeW rfl rfl rfl (by first | omega | (simp only [List.length_set]; omega)) ?_
  | refine L.store rfl rfl rfl rfl (by omega) ?_
  | refine L.storeArr rfl rfl rfl (by first | assumption | rfl) (by first | assumption | rfl) ?_
  | refine L.storeA rfl rfl rfl rfl rfl ?_
  | refine L.pick rfl rfl rfl ?_
  | refine L.minmax rfl rfl rfl rfl ?_
  | refine L.eqArr rfl rfl (by first | assumption | rfl) (by first | assumption | rfl) rfl rfl ?_
  | refine L.str rfl rfl (by omega) rfl ?_
  | refine L.strNil rfl rfl ?_
  | refine L.cmpS rfl rfl rfl rfl ?_
  | refine L.make rfl rfl (by omega) (by omega) (by omega) rfl rfl ?_
  | refine L.bs1 rfl rfl rfl ?_
  | refine L.bs0 rfl rfl ?_
  | refine L.met rfl rfl rfl ?_
  | refine L.loadG rfl rfl (by kernel_rfl) rfl ?_))
    refine L.call0 (quarter_fn (at_ w 0) (at_ w 1) (at_ w 2) (at_ w 3)) rfl rfl ?_
    repeat (first | refine Sp.seq ?_ | refine C.region ?_ | refine C.regionD (by kernel_rfl) ?_ | refine L.nil ?_ | refine L.nilD (by kernel_rfl) ?_ | (with_reducible refine C.next ?_) | refine Sp.block ?_ | refine Sp.skip ?_ | refine Sp.exit ?_ | (with_reducible refine C.bNormal ?_) | (with_reducible refine C.xSeq ?_) | (with_reducible refine C.xHit ?_) | (with_reducible refine C.xMiss rfl ?_) | (first
  | refine L.move rfl rfl ?_
  | refine L.assign rfl rfl ?_
  | refine L.bv rfl rfl rfl rfl ?_
  | refine L.shiftB rfl rfl rfl rfl ?_
  | refine L.shiftN rfl rfl rfl rfl ?_
  | refine L.bvCmp rfl rfl rfl rfl ?_
  | refine L.cmpN rfl rfl rfl rfl ?_
  | refine L.addN rfl rfl (by omega) rfl ?_
  | refine L.mulN rfl rfl (by omega) rfl ?_
  | refine L.subN rfl rfl (by omega) (by omega) rfl ?_
  | refine L.remN rfl rfl (by omega) rfl ?_
  | refine L.quoN rfl rfl (by omega) (by omega) rfl ?_
  | refine L.quoB rfl rfl (by decide) rfl ?_
  | refine L.not rfl rfl ?_
  | refine L.convB rfl rfl ?_
  | refine L.convN rfl rfl ?_
  | refine L.extract rfl rfl rfl rfl ?_
  | refine L.atA0 rfl rfl (by omega) rfl ?_
  | refine L.atA rfl rfl (by omega) rfl ?_
  | refine L.atA0s rfl rfl (by omega) rfl ?_
  | refine L.atS0 rfl rfl (by omega) rfl ?_
  | refine L.atS rfl rfl (by omega) rfl ?_
  | refine L.atS0s rfl rfl (by omega) rfl ?_
  | refine L.len rfl rfl ?_
  | refine L.lenNil rfl rfl ?_
  | refine L.slLo rfl rfl (by omega) rfl rfl ?_
  | refine L.slBoth rfl rfl rfl (by omega) (by omega) (by omega) rfl rfl ?_
  | refine L.slHi rfl rfl (by omega) rfl rfl ?_
  | refine L.slAll rfl rfl rfl ?_
  | refine L.indexW rfl rfl (by omega) (by omega) rfl ?_
  | refine L.loadW rfl rfl (by first | omega | (simp only [List.length_set]; omega)) rfl ?_
  | refine L.loadArr rfl rfl (by assumption) rfl ?_
  | refine L.loadL rfl rfl rfl rfl ?_
  | refine L.load rfl rfl rfl rfl ?_
  | refine L.boxA rfl rfl rfl ?_
  | refine L.box1 rfl rfl rfl rfl ?_
  | refine L.alloc rfl rfl ?_
  | refine L.storeW rfl rfl rfl (by first | omega | (simp only [List.length_set]; omega)) ?_
  | refine L.store rfl rfl rfl rfl (by omega) ?_
  | refine L.storeArr rfl rfl rfl (by first | assumption | rfl) (by first | assumption | rfl) ?_
  | refine L.storeA rfl rfl rfl rfl rfl ?_
  | refine L.pick rfl rfl rfl ?_
  | refine L.minmax rfl rfl rfl rfl ?_
  | refine L.eqArr rfl rfl (by first | assumption | rfl) (by first | assumption | rfl) rfl rfl ?_
  | refine L.str rfl rfl (by omega) rfl ?_
  | refine L.strNil rfl rfl ?_
  | refine L.cmpS rfl rfl rfl rfl ?_
  | refine L.make rfl rfl (by omega) (by omega) (by omega) rfl rfl ?_
  | refine L.bs1 rfl rfl rfl ?_
  | refine L.bs0 rfl rfl ?_
  | refine L.met rfl rfl rfl ?_
  | refine L.loadG rfl rfl (by kernel_rfl) rfl ?_))
    refine L.call0 (rquarter_fn (at_ w 0) (at_ w 1) (at_ w 2) (at_ w 3)) rfl rfl ?_
    repeat (first | refine Sp.seq ?_ | refine C.region ?_ | refine C.regionD (by kernel_rfl) ?_ | refine L.nil ?_ | refine L.nilD (by kernel_rfl) ?_ | (with_reducible refine C.next ?_) | refine Sp.block ?_ | refine Sp.skip ?_ | refine Sp.exit ?_ | (with_reducible refine C.bNormal ?_) | (with_reducible refine C.xSeq ?_) | (with_reducible refine C.xHit ?_) | (with_reducible refine C.xMiss rfl ?_) | (first
  | refine L.move rfl rfl ?_
  | refine L.assign rfl rfl ?_
  | refine L.bv rfl rfl rfl rfl ?_
  | refine L.shiftB rfl rfl rfl rfl ?_
  | refine L.shiftN rfl rfl rfl rfl ?_
  | refine L.bvCmp rfl rfl rfl rfl ?_
  | refine L.cmpN rfl rfl rfl rfl ?_
  | refine L.addN rfl rfl (by omega) rfl ?_
  | refine L.mulN rfl rfl (by omega) rfl ?_
  | refine L.subN rfl rfl (by omega) (by omega) rfl ?_
  | refine L.remN rfl rfl (by omega) rfl ?_
  | refine L.quoN rfl rfl (by omega) (by omega) rfl ?_
  | refine L.quoB rfl rfl (by decide) rfl ?_
  | refine L.not rfl rfl ?_
  | refine L.convB rfl rfl ?_
  | refine L.convN rfl rfl ?_
  | refine L.extract rfl rfl rfl rfl ?_
  | refine L.atA0 rfl rfl (by omega) rfl ?_
  | refine L.atA rfl rfl (by omega) rfl ?_
  | refine L.atA0s rfl rfl (by omega) rfl ?_
  | refine L.atS0 rfl rfl (by omega) rfl ?_
  | refine L.atS rfl rfl (by omega) rfl ?_
  | refine L.atS0s rfl rfl (by omega) rfl ?_
  | refine L.len rfl rfl ?_
  | refine L.lenNil rfl rfl ?_
  | refine L.slLo rfl rfl (by omega) rfl rfl ?_
  | refine L.slBoth rfl rfl rfl (by omega) (by omega) (by omega) rfl rfl ?_
  | refine L.slHi rfl rfl (by omega) rfl rfl ?_
  | refine L.slAll rfl rfl rfl ?_
  | refine L.indexW rfl rfl (by omega) (by omega) rfl ?_
  | refine L.loadW rfl rfl (by first | omega | (simp only [List.length_set]; omega)) rfl ?_
  | refine L.loadArr rfl rfl (by assumption) rfl ?_
  | refine L.loadL rfl rfl rfl rfl ?_
  | refine L.load rfl rfl rfl rfl ?_
  | refine L.boxA rfl rfl rfl ?_
  | refine L.box1 rfl rfl rfl rfl ?_
  | refine L.alloc rfl rfl ?_
  | refine L.storeW rfl rfl rfl (by first | omega | (simp only [List.length_set]; omega)) ?_
  | refine L.store rfl rfl rfl rfl (by omega) ?_
  | refine L.storeArr rfl rfl rfl (by first | assumption | rfl) (by first | assumption | rfl) ?_
  | refine L.storeA rfl rfl rfl rfl rfl ?_
  | refine L.pick rfl rfl rfl ?_
  | refine L.minmax rfl rfl rfl rfl ?_
  | refine L.eqArr rfl rfl (by first | assumption | rfl) (by first | assumption | rfl) rfl rfl ?_
  | refine L.str rfl rfl (by omega) rfl ?_
  | refine L.strNil rfl rfl ?_
  | refine L.cmpS rfl rfl rfl rfl ?_
  | refine L.make rfl rfl (by omega) (by omega) (by omega) rfl rfl ?_
  | refine L.bs1 rfl rfl rfl ?_
  | refine L.bs0 rfl rfl ?_
  | refine L.met rfl rfl rfl ?_
  | refine L.loadG rfl rfl (by kernel_rfl) rfl ?_))
    refine L.callNew [(0, 0)] [⟨8, .u8, b⟩] (V' := .slice (some ⟨4, 0, none⟩) n (capU + 1)) (own_fn b n cp hb (by omega)) rfl rfl rfl ⟨⟨b, true, false, rfl, rfl, by omega, by decide⟩, trivial⟩ rfl rfl rfl (by kernel_rfl) (fun h => by cases h) rfl rfl ?_
    repeat (first | refine Sp.seq ?_ | refine C.region ?_ | refine C.regionD (by kernel_rfl) ?_ | refine L.nil ?_ | refine L.nilD (by kernel_rfl) ?_ | (with_reducible refine C.next ?_) | refine Sp.block ?_ | refine Sp.skip ?_ | refine Sp.exit ?_ | (with_reducible refine C.bNormal ?_) | (with_reducible refine C.xSeq ?_) | (with_reducible refine C.xHit ?_) | (with_reducible refine C.xMiss rfl ?_) | (first
  | refine L.move rfl rfl ?_
  | refine L.assign rfl rfl ?_
  | refine L.bv rfl rfl rfl rfl ?_
  | refine L.shiftB rfl rfl rfl rfl ?_
  | refine L.shiftN rfl rfl rfl rfl ?_
  | refine L.bvCmp rfl rfl rfl rfl ?_
  | refine L.cmpN rfl rfl rfl rfl ?_
  | refine L.addN rfl rfl (by omega) rfl ?_
  | refine L.mulN rfl rfl (by omega) rfl ?_
  | refine L.subN rfl rfl (by omega) (by omega) rfl ?_
  | refine L.remN rfl rfl (by omega) rfl ?_
  | refine L.quoN rfl rfl (by omega) (by omega) rfl ?_
  | refine L.quoB rfl rfl (by decide) rfl ?_
  | refine L.not rfl rfl ?_
  | refine L.convB rfl rfl ?_
  | refine L.convN rfl rfl ?_
  | refine L.extract rfl rfl rfl rfl ?_
  | refine L.atA0 rfl rfl (by omega) rfl ?_
  | refine L.atA rfl rfl (by omega) rfl ?_
  | refine L.atA0s rfl rfl (by omega) rfl ?_
  | refine L.atS0 rfl rfl (by omega) rfl ?_
  | refine L.atS rfl rfl (by omega) rfl ?_
  | refine L.atS0s rfl rfl (by omega) rfl ?_
  | refine L.len rfl rfl ?_
  | refine L.lenNil rfl rfl ?_
  | refine L.slLo rfl rfl (by omega) rfl rfl ?_
  | refine L.slBoth rfl rfl rfl (by omega) (by omega) (by omega) rfl rfl ?_
  | refine L.slHi rfl rfl (by omega) rfl rfl ?_
  | refine L.slAll rfl rfl rfl ?_
  | refine L.indexW rfl rfl (by omega) (by omega) rfl ?_
  | refine L.loadW rfl rfl (by first | omega | (simp only [List.length_set]; omega)) rfl ?_
  | refine L.loadArr rfl rfl (by assumption) rfl ?_
  | refine L.loadL rfl rfl rfl rfl ?_
  | refine L.load rfl rfl rfl rfl ?_
  | refine L.boxA rfl rfl rfl ?_
  | refine L.box1 rfl rfl rfl rfl ?_
  | refine L.alloc rfl rfl ?_
  | refine L.storeW rfl rfl rfl (by first | omega | (simp only [List.length_set]; omega)) ?_
  | refine L.store rfl rfl rfl rfl (by omega) ?_
  | refine L.storeArr rfl rfl rfl (by first | assumption | rfl) (by first | assumption | rfl) ?_
  | refine L.storeA rfl rfl rfl rfl rfl ?_
  | refine L.pick rfl rfl rfl ?_
  | refine L.minmax rfl rfl rfl rfl ?_
  | refine L.eqArr rfl rfl (by first | assumption | rfl) (by first | assumption | rfl) rfl rfl ?_
  | refine L.str rfl rfl (by omega) rfl ?_
  | refine L.strNil rfl rfl ?_
  | refine L.cmpS rfl rfl rfl rfl ?_
  | refine L.make rfl rfl (by omega) (by omega) (by omega) rfl rfl ?_
  | refine L.bs1 rfl rfl rfl ?_
  | refine L.bs0 rfl rfl ?_
  | refine L.met rfl rfl rfl ?_
  | refine L.loadG rfl rfl (by kernel_rfl) rfl ?_))
    by_cases hL : tooLong n c
    · refine L.callRo [(4, 0)] [⟨8, .u8, b.take n⟩] (xor_long key nonce (b.take n) c n (capU + 1) hk hn (by omega) (by omega) hL) rfl rfl (by simp only [List.map_cons, List.map_nil, rn_arr]; rfl) ⟨⟨b.take n, true, true, rfl, rfl, by omega, by decide⟩, trivial⟩ rfl ?_
      repeat (first | refine Sp.seq ?_ | refine C.region ?_ | refine C.regionD (by kernel_rfl) ?_ | refine L.nil ?_ | refine L.nilD (by kernel_rfl) ?_ | (with_reducible refine C.next ?_) | refine Sp.block ?_ | refine Sp.skip ?_ | refine Sp.exit ?_ | (with_reducible refine C.bNormal ?_) | (with_reducible refine C.xSeq ?_) | (with_reducible refine C.xHit ?_) | (with_reducible refine C.xMiss rfl ?_) | (first
  | refine L.move rfl rfl ?_
  | refine L.assign rfl rfl ?_
  | refine L.bv rfl rfl rfl rfl ?_
  | refine L.shiftB rfl rfl rfl rfl ?_
  | refine L.shiftN rfl rfl rfl rfl ?_
  | refine L.bvCmp rfl rfl rfl rfl ?_
  | refine L.cmpN rfl rfl rfl rfl ?_
  | refine L.addN rfl rfl (by omega) rfl ?_
  | refine L.mulN rfl rfl (by omega) rfl ?_
  | refine L.subN rfl rfl (by omega) (by omega) rfl ?_
  | refine L.remN rfl rfl (by omega) rfl ?_
  | refine L.quoN rfl rfl (by omega) (by omega) rfl ?_
  | refine L.quoB rfl rfl (by decide) rfl ?_
  | refine L.not rfl rfl ?_
  | refine L.convB rfl rfl ?_
  | refine L.convN rfl rfl ?_
  | refine L.extract rfl rfl rfl rfl ?_
  | refine L.atA0 rfl rfl (by omega) rfl ?_
  | refine L.atA rfl rfl (by omega) rfl ?_
  | refine L.atA0s rfl rfl (by omega) rfl ?_
  | refine L.atS0 rfl rfl (by omega) rfl ?_
  | refine L.atS rfl rfl (by omega) rfl ?_
  | refine L.atS0s rfl rfl (by omega) rfl ?_
  | refine L.len rfl rfl ?_
  | refine L.lenNil rfl rfl ?_
  | refine L.slLo rfl rfl (by omega) rfl rfl ?_
  | refine L.slBoth rfl rfl rfl (by omega) (by omega) (by omega) rfl rfl ?_
  | refine L.slHi rfl rfl (by omega) rfl rfl ?_
  | refine L.slAll rfl rfl rfl ?_
  | refine L.indexW rfl rfl (by omega) (by omega) rfl ?_
  | refine L.loadW rfl rfl (by first | omega | (simp only [List.length_set]; omega)) rfl ?_
  | refine L.loadArr rfl rfl (by assumption) rfl ?_
  | refine L.loadL rfl rfl rfl rfl ?_
  | refine L.load rfl rfl rfl rfl ?_
  | refine L.boxA rfl rfl rfl ?_
  | refine L.box1 rfl rfl rfl rfl ?_
  | refine L.alloc rfl rfl ?_
  | refine L.storeW rfl rfl rfl (by first | omega | (simp only [List.length_set]; omega)) ?_
  | refine L.store rfl rfl rfl rfl (by omega) ?_
  | refine L.storeArr rfl rfl rfl (by first | assumption | rfl) (by first | assumption | rfl) ?_
  | refine L.storeA rfl rfl rfl rfl rfl ?_
  | refine L.pick rfl rfl rfl ?_
  | refine L.minmax rfl rfl rfl rfl ?_
  | refine L.eqArr rfl rfl (by first | assumption | rfl) (by first | assumption | rfl) rfl rfl ?_
  | refine L.str rfl rfl (by omega) rfl ?_
  | refine L.strNil rfl rfl ?_
  | refine L.cmpS rfl rfl rfl rfl ?_
  | refine L.make rfl rfl (by omega) (by omega) (by omega) rfl rfl ?_
  | refine L.bs1 rfl rfl rfl ?_
  | refine L.bs0 rfl rfl ?_
  | refine L.met rfl rfl rfl ?_
  | refine L.loadG rfl rfl (by kernel_rfl) rfl ?_))
      refine L.callRo [(0, 0)] [⟨8, .u8, b⟩] (rxor_long key nonce b c n cp hk hn hb (by omega) hL) rfl rfl (by simp only [List.map_cons, List.map_nil, rn_arr]; rfl) ⟨⟨b, true, false, rfl, rfl, by omega, by decide⟩, trivial⟩ rfl ?_
      repeat (first | refine Sp.seq ?_ | refine C.region ?_ | refine C.regionD (by kernel_rfl) ?_ | refine L.nil ?_ | refine L.nilD (by kernel_rfl) ?_ | (with_reducible refine C.next ?_) | refine Sp.block ?_ | refine Sp.skip ?_ | refine Sp.exit ?_ | (with_reducible refine C.bNormal ?_) | (with_reducible refine C.xSeq ?_) | (with_reducible refine C.xHit ?_) | (with_reducible refine C.xMiss rfl ?_) | refine L.bvCmp (c := true) rfl rfl (by simp [bvCmp]) rfl ?_ | (first
  | refine L.move rfl rfl ?_
  | refine L.assign rfl rfl ?_
  | refine L.bv rfl rfl rfl rfl ?_
  | refine L.shiftB rfl rfl rfl rfl ?_
  | refine L.shiftN rfl rfl rfl rfl ?_
  | refine L.bvCmp rfl rfl rfl rfl ?_
  | refine L.cmpN rfl rfl rfl rfl ?_
  | refine L.addN rfl rfl (by omega) rfl ?_
  | refine L.mulN rfl rfl (by omega) rfl ?_
  | refine L.subN rfl rfl (by omega) (by omega) rfl ?_
  | refine L.remN rfl rfl (by omega) rfl ?_
  | refine L.quoN rfl rfl (by omega) (by omega) rfl ?_
  | refine L.quoB rfl rfl (by decide) rfl ?_
  | refine L.not rfl rfl ?_
  | refine L.convB rfl rfl ?_
  | refine L.convN rfl rfl ?_
  | refine L.extract rfl rfl rfl rfl ?_
  | refine L.atA0 rfl rfl (by omega) rfl ?_
  | refine L.atA rfl rfl (by omega) rfl ?_
  | refine L.atA0s rfl rfl (by omega) rfl ?_
  | refine L.atS0 rfl rfl (by omega) rfl ?_
  | refine L.atS rfl rfl (by omega) rfl ?_
  | refine L.atS0s rfl rfl (by omega) rfl ?_
  | refine L.len rfl rfl ?_
  | refine L.lenNil rfl rfl ?_
  | refine L.slLo rfl rfl (by omega) rfl rfl ?_
  | refine L.slBoth rfl rfl rfl (by omega) (by omega) (by omega) rfl rfl ?_
  | refine L.slHi rfl rfl (by omega) rfl rfl ?_
  | refine L.slAll rfl rfl rfl ?_
  | refine L.indexW rfl rfl (by omega) (by omega) rfl ?_
  | refine L.loadW rfl rfl (by first | omega | (simp only [List.length_set]; omega)) rfl ?_
  | refine L.loadArr rfl rfl (by assumption) rfl ?_
  | refine L.loadL rfl rfl rfl rfl ?_
  | refine L.load rfl rfl rfl rfl ?_
  | refine L.boxA rfl rfl rfl ?_
  | refine L.box1 rfl rfl rfl rfl ?_
  | refine L.alloc rfl rfl ?_
  | refine L.storeW rfl rfl rfl (by first | omega | (simp only [List.length_set]; omega)) ?_
  | refine L.store rfl rfl rfl rfl (by omega) ?_
  | refine L.storeArr rfl rfl rfl (by first | assumption | rfl) (by first | assumption | rfl) ?_
  | refine L.storeA rfl rfl rfl rfl rfl ?_
  | refine L.pick rfl rfl rfl ?_
  | refine L.minmax rfl rfl rfl rfl ?_
  | refine L.eqArr rfl rfl (by first | assumption | rfl) (by first | assumption | rfl) rfl rfl ?_
  | refine L.str rfl rfl (by omega) rfl ?_
  | refine L.strNil rfl rfl ?_
  | refine L.cmpS rfl rfl rfl rfl ?_
  | refine L.make rfl rfl (by omega) (by omega) (by omega) rfl rfl ?_
  | refine L.bs1 rfl rfl rfl ?_
  | refine L.bs0 rfl rfl ?_
  | refine L.met rfl rfl rfl ?_
  | refine L.loadG rfl rfl (by kernel_rfl) rfl ?_))
      refine L.call0 (round_fn w hw) rfl rfl ?_
      repeat (first | refine Sp.seq ?_ | refine C.region ?_ | refine C.regionD (by kernel_rfl) ?_ | refine L.nil ?_ | refine L.nilD (by kernel_rfl) ?_ | (with_reducible refine C.next ?_) | refine Sp.block ?_ | refine Sp.skip ?_ | refine Sp.exit ?_ | (with_reducible refine C.bNormal ?_) | (with_reducible refine C.xSeq ?_) | (with_reducible refine C.xHit ?_) | (with_reducible refine C.xMiss rfl ?_) | (first
  | refine L.move rfl rfl ?_
  | refine L.assign rfl rfl ?_
  | refine L.bv rfl rfl rfl rfl ?_
  | refine L.shiftB rfl rfl rfl rfl ?_
  | refine L.shiftN rfl rfl rfl rfl ?_
  | refine L.bvCmp rfl rfl rfl rfl ?_
  | refine L.cmpN rfl rfl rfl rfl ?_
  | refine L.addN rfl rfl (by omega) rfl ?_
  | refine L.mulN rfl rfl (by omega) rfl ?_
  | refine L.subN rfl rfl (by omega) (by omega) rfl ?_
  | refine L.remN rfl rfl (by omega) rfl ?_
  | refine L.quoN rfl rfl (by omega) (by omega) rfl ?_
  | refine L.quoB rfl rfl (by decide) rfl ?_
  | refine L.not rfl rfl ?_
  | refine L.convB rfl rfl ?_
  | refine L.convN rfl rfl ?_
  | refine L.extract rfl rfl rfl rfl ?_
  | refine L.atA0 rfl rfl (by omega) rfl ?_
  | refine L.atA rfl rfl (by omega) rfl ?_
  | refine L.atA0s rfl rfl (by omega) rfl ?_
  | refine L.atS0 rfl rfl (by omega) rfl ?_
  | refine L.atS rfl rfl (by omega) rfl ?_
  | refine L.atS0s rfl rfl (by omega) rfl ?_
  | refine L.len rfl rfl ?_
  | refine L.lenNil rfl rfl ?_
  | refine L.slLo rfl rfl (by omega) rfl rfl ?_
  | refine L.slBoth rfl rfl rfl (by omega) (by omega) (by omega) rfl rfl ?_
  | refine L.slHi rfl rfl (by omega) rfl rfl ?_
  | refine L.slAll rfl rfl rfl ?_
  | refine L.indexW rfl rfl (by omega) (by omega) rfl ?_
  | refine L.loadW rfl rfl (by first | omega | (simp only [List.length_set]; omega)) rfl ?_
  | refine L.loadArr rfl rfl (by assumption) rfl ?_
  | refine L.loadL rfl rfl rfl rfl ?_
  | refine L.load rfl rfl rfl rfl ?_
  | refine L.boxA rfl rfl rfl ?_
  | refine L.box1 rfl rfl rfl rfl ?_
  | refine L.alloc rfl rfl ?_
  | refine L.storeW rfl rfl rfl (by first | omega | (simp only [List.length_set]; omega)) ?_
  | refine L.store rfl rfl rfl rfl (by omega) ?_
  | refine L.storeArr rfl rfl rfl (by first | assumption | rfl) (by first | assumption | rfl) ?_
  | refine L.storeA rfl rfl rfl rfl rfl ?_
  | refine L.pick rfl rfl rfl ?_
  | refine L.minmax rfl rfl rfl rfl ?_
  | refine L.eqArr rfl rfl (by first | assumption | rfl) (by first | assumption | rfl) rfl rfl ?_
  | refine L.str rfl rfl (by omega) rfl ?_
  | refine L.strNil rfl rfl ?_
  | refine L.cmpS rfl rfl rfl rfl ?_
  | refine L.make rfl rfl (by omega) (by omega) (by omega) rfl rfl ?_
  | refine L.bs1 rfl rfl rfl ?_
  | refine L.bs0 rfl rfl ?_
  | refine L.met rfl rfl rfl ?_
  | refine L.loadG rfl rfl (by kernel_rfl) rfl ?_))
      refine L.call0 (rround_fn w hw) rfl rfl ?_
      refine L.met rfl rfl rfl ?_
      refine L.eqArr (r := true) rfl rfl hr8 hr8 (by simp [arrCmp]) rfl ?_
      repeat (first | refine Sp.seq ?_ | refine C.region ?_ | refine C.regionD (by kernel_rfl) ?_ | refine L.nil ?_ | refine L.nilD (by kernel_rfl) ?_ | (with_reducible refine C.next ?_) | refine Sp.block ?_ | refine Sp.skip ?_ | refine Sp.exit ?_ | (with_reducible refine C.bNormal ?_) | (with_reducible refine C.xSeq ?_) | (with_reducible refine C.xHit ?_) | (with_reducible refine C.xMiss rfl ?_) | (first
  | refine L.move rfl rfl ?_
  | refine L.assign rfl rfl ?_
  | refine L.bv rfl rfl rfl rfl ?_
  | refine L.shiftB rfl rfl rfl rfl ?_
  | refine L.shiftN rfl rfl rfl rfl ?_
  | refine L.bvCmp rfl rfl rfl rfl ?_
  | refine L.cmpN rfl rfl rfl rfl ?_
  | refine L.addN rfl rfl (by omega) rfl ?_
  | refine L.mulN rfl rfl (by omega) rfl ?_
  | refine L.subN rfl rfl (by omega) (by omega) rfl ?_
  | refine L.remN rfl rfl (by omega) rfl ?_
  | refine L.quoN rfl rfl (by omega) (by omega) rfl ?_
  | refine L.quoB rfl rfl (by decide) rfl ?_
  | refine L.not rfl rfl ?_
  | refine L.convB rfl rfl ?_
  | refine L.convN rfl rfl ?_
  | refine L.extract rfl rfl rfl rfl ?_
  | refine L.atA0 rfl rfl (by omega) rfl ?_
  | refine L.atA rfl rfl (by omega) rfl ?_
  | refine L.atA0s rfl rfl (by omega) rfl ?_
  | refine L.atS0 rfl rfl (by omega) rfl ?_
  | refine L.atS rfl rfl (by omega) rfl ?_
  | refine L.atS0s rfl rfl (by omega) rfl ?_
  | refine L.len rfl rfl ?_
  | refine L.lenNil rfl rfl ?_
  | refine L.slLo rfl rfl (by omega) rfl rfl ?_
  | refine L.slBoth rfl rfl rfl (by omega) (by omega) (by omega) rfl rfl ?_
  | refine L.slHi rfl rfl (by omega) rfl rfl ?_
  | refine L.slAll rfl rfl rfl ?_
  | refine L.indexW rfl rfl (by omega) (by omega) rfl ?_
  | refine L.loadW rfl rfl (by first | omega | (simp only [List.length_set]; omega)) rfl ?_
  | refine L.loadArr rfl rfl (by assumption) rfl ?_
  | refine L.loadL rfl rfl rfl rfl ?_
  | refine L.load rfl rfl rfl rfl ?_
  | refine L.boxA rfl rfl rfl ?_
  | refine L.box1 rfl rfl rfl rfl ?_
  | refine L.alloc rfl rfl ?_
  | refine L.storeW rfl rfl rfl (by first | omega | (simp only [List.length_set]; omega)) ?_
  | refine L.store rfl rfl rfl rfl (by omega) ?_
  | refine L.storeArr rfl rfl rfl (by first | assumption | rfl) (by first | assumption | rfl) ?_
  | refine L.storeA rfl rfl rfl rfl rfl ?_
  | refine L.pick rfl rfl rfl ?_
  | refine L.minmax rfl rfl rfl rfl ?_
  | refine L.eqArr rfl rfl (by first | assumption | rfl) (by first | assumption | rfl) rfl rfl ?_
  | refine L.str rfl rfl (by omega) rfl ?_
  | refine L.strNil rfl rfl ?_
  | refine L.cmpS rfl rfl rfl rfl ?_
  | refine L.make rfl rfl (by omega) (by omega) (by omega) rfl rfl ?_
  | refine L.bs1 rfl rfl rfl ?_
  | refine L.bs0 rfl rfl ?_
  | refine L.met rfl rfl rfl ?_
  | refine L.loadG rfl rfl (by kernel_rfl) rfl ?_))
      refine L.call0 (state_fn key nonce c hk hn) rfl rfl ?_
      repeat (first | refine Sp.seq ?_ | refine C.region ?_ | refine C.regionD (by kernel_rfl) ?_ | refine L.nil ?_ | refine L.nilD (by kernel_rfl) ?_ | (with_reducible refine C.next ?_) | refine Sp.block ?_ | refine Sp.skip ?_ | refine Sp.exit ?_ | (with_reducible refine C.bNormal ?_) | (with_reducible refine C.xSeq ?_) | (with_reducible refine C.xHit ?_) | (with_reducible refine C.xMiss rfl ?_) | (first
  | refine L.move rfl rfl ?_
  | refine L.assign rfl rfl ?_
  | refine L.bv rfl rfl rfl rfl ?_
  | refine L.shiftB rfl rfl rfl rfl ?_
  | refine L.shiftN rfl rfl rfl rfl ?_
  | refine L.bvCmp rfl rfl rfl rfl ?_
  | refine L.cmpN rfl rfl rfl rfl ?_
  | refine L.addN rfl rfl (by omega) rfl ?_
  | refine L.mulN rfl rfl (by omega) rfl ?_
  | refine L.subN rfl rfl (by omega) (by omega) rfl ?_
  | refine L.remN rfl rfl (by omega) rfl ?_
  | refine L.quoN rfl rfl (by omega) (by omega) rfl ?_
  | refine L.quoB rfl rfl (by decide) rfl ?_
  | refine L.not rfl rfl ?_
  | refine L.convB rfl rfl ?_
  | refine L.convN rfl rfl ?_
  | refine L.extract rfl rfl rfl rfl ?_
  | refine L.atA0 rfl rfl (by omega) rfl ?_
  | refine L.atA rfl rfl (by omega) rfl ?_
  | refine L.atA0s rfl rfl (by omega) rfl ?_
  | refine L.atS0 rfl rfl (by omega) rfl ?_
  | refine L.atS rfl rfl (by omega) rfl ?_
  | refine L.atS0s rfl rfl (by omega) rfl ?_
  | refine L.len rfl rfl ?_
  | refine L.lenNil rfl rfl ?_
  | refine L.slLo rfl rfl (by omega) rfl rfl ?_
  | refine L.slBoth rfl rfl rfl (by omega) (by omega) (by omega) rfl rfl ?_
  | refine L.slHi rfl rfl (by omega) rfl rfl ?_
  | refine L.slAll rfl rfl rfl ?_
  | refine L.indexW rfl rfl (by omega) (by omega) rfl ?_
  | refine L.loadW rfl rfl (by first | omega | (simp only [List.length_set]; omega)) rfl ?_
  | refine L.loadArr rfl rfl (by assumption) rfl ?_
  | refine L.loadL rfl rfl rfl rfl ?_
  | refine L.load rfl rfl rfl rfl ?_
  | refine L.boxA rfl rfl rfl ?_
  | refine L.box1 rfl rfl rfl rfl ?_
  | refine L.alloc rfl rfl ?_
  | refine L.storeW rfl rfl rfl (by first | omega | (simp only [List.length_set]; omega)) ?_
  | refine L.store rfl rfl rfl rfl (by omega) ?_
  | refine L.storeArr rfl rfl rfl (by first | assumption | rfl) (by first | assumption | rfl) ?_
  | refine L.storeA rfl rfl rfl rfl rfl ?_
  | refine L.pick rfl rfl rfl ?_
  | refine L.minmax rfl rfl rfl rfl ?_
  | refine L.eqArr rfl rfl (by first | assumption | rfl) (by first | assumption | rfl) rfl rfl ?_
  | refine L.str rfl rfl (by omega) rfl ?_
  | refine L.strNil rfl rfl ?_
  | refine L.cmpS rfl rfl rfl rfl ?_
  | refine L.make rfl rfl (by omega) (by omega) (by omega) rfl rfl ?_
  | refine L.bs1 rfl rfl rfl ?_
  | refine L.bs0 rfl rfl ?_
  | refine L.met rfl rfl rfl ?_
  | refine L.loadG rfl rfl (by kernel_rfl) rfl ?_))
      refine L.call0 (rstate_fn key nonce c hk hn) rfl rfl ?_
      refine L.met rfl rfl rfl ?_
      refine L.eqArr (r := true) rfl rfl hs1 hs1 (by simp [arrCmp]) rfl ?_
      repeat (first | refine Sp.seq ?_ | refine C.region ?_ | refine C.regionD (by kernel_rfl) ?_ | refine L.nil ?_ | refine L.nilD (by kernel_rfl) ?_ | (with_reducible refine C.next ?_) | refine Sp.block ?_ | refine Sp.skip ?_ | refine Sp.exit ?_ | (with_reducible refine C.bNormal ?_) | (with_reducible refine C.xSeq ?_) | (with_reducible refine C.xHit ?_) | (with_reducible refine C.xMiss rfl ?_) | (first
  | refine L.move rfl rfl ?_
  | refine L.assign rfl rfl ?_
  | refine L.bv rfl rfl rfl rfl ?_
  | refine L.shiftB rfl rfl rfl rfl ?_
  | refine L.shiftN rfl rfl rfl rfl ?_
  | refine L.bvCmp rfl rfl rfl rfl ?_
  | refine L.cmpN rfl rfl rfl rfl ?_
  | refine L.addN rfl rfl (by omega) rfl ?_
  | refine L.mulN rfl rfl (by omega) rfl ?_
  | refine L.subN rfl rfl (by omega) (by omega) rfl ?_
  | refine L.remN rfl rfl (by omega) rfl ?_
  | refine L.quoN rfl rfl (by omega) (by omega) rfl ?_
  | refine L.quoB rfl rfl (by decide) rfl ?_
  | refine L.not rfl rfl ?_
  | refine L.convB rfl rfl ?_
  | refine L.convN rfl rfl ?_
  | refine L.extract rfl rfl rfl rfl ?_
  | refine L.atA0 rfl rfl (by omega) rfl ?_
  | refine L.atA rfl rfl (by omega) rfl ?_
  | refine L.atA0s rfl rfl (by omega) rfl ?_
  | refine L.atS0 rfl rfl (by omega) rfl ?_
  | refine L.atS rfl rfl (by omega) rfl ?_
  | refine L.atS0s rfl rfl (by omega) rfl ?_
  | refine L.len rfl rfl ?_
  | refine L.lenNil rfl rfl ?_
  | refine L.slLo rfl rfl (by omega) rfl rfl ?_
  | refine L.slBoth rfl rfl rfl (by omega) (by omega) (by omega) rfl rfl ?_
  | refine L.slHi rfl rfl (by omega) rfl rfl ?_
  | refine L.slAll rfl rfl rfl ?_
  | refine L.indexW rfl rfl (by omega) (by omega) rfl ?_
  | refine L.loadW rfl rfl (by first | omega | (simp only [List.length_set]; omega)) rfl ?_
  | refine L.loadArr rfl rfl (by assumption) rfl ?_
  | refine L.loadL rfl rfl rfl rfl ?_
  | refine L.load rfl rfl rfl rfl ?_
  | refine L.boxA rfl rfl rfl ?_
  | refine L.box1 rfl rfl rfl rfl ?_
  | refine L.alloc rfl rfl ?_
  | refine L.storeW rfl rfl rfl (by first | omega | (simp only [List.length_set]; omega)) ?_
  | refine L.store rfl rfl rfl rfl (by omega) ?_
  | refine L.storeArr rfl rfl rfl (by first | assumption | rfl) (by first | assumption | rfl) ?_
  | refine L.storeA rfl rfl rfl rfl rfl ?_
  | refine L.pick rfl rfl rfl ?_
  | refine L.minmax rfl rfl rfl rfl ?_
  | refine L.eqArr rfl rfl (by first | assumption | rfl) (by first | assumption | rfl) rfl rfl ?_
  | refine L.str rfl rfl (by omega) rfl ?_
  | refine L.strNil rfl rfl ?_
  | refine L.cmpS rfl rfl rfl rfl ?_
  | refine L.make rfl rfl (by omega) (by omega) (by omega) rfl rfl ?_
  | refine L.bs1 rfl rfl rfl ?_
  | refine L.bs0 rfl rfl ?_
  | refine L.met rfl rfl rfl ?_
  | refine L.loadG rfl rfl (by kernel_rfl) rfl ?_))
      refine L.call0 (block_fn key nonce c hk hn) rfl rfl ?_
      repeat (first | refine Sp.seq ?_ | refine C.region ?_ | refine C.regionD (by kernel_rfl) ?_ | refine L.nil ?_ | refine L.nilD (by kernel_rfl) ?_ | (with_reducible refine C.next ?_) | refine Sp.block ?_ | refine Sp.skip ?_ | refine Sp.exit ?_ | (with_reducible refine C.bNormal ?_) | (with_reducible refine C.xSeq ?_) | (with_reducible refine C.xHit ?_) | (with_reducible refine C.xMiss rfl ?_) | (first
  | refine L.move rfl rfl ?_
  | refine L.assign rfl rfl ?_
  | refine L.bv rfl rfl rfl rfl ?_
  | refine L.shiftB rfl rfl rfl rfl ?_
  | refine L.shiftN rfl rfl rfl rfl ?_
  | refine L.bvCmp rfl rfl rfl rfl ?_
  | refine L.cmpN rfl rfl rfl rfl ?_
  | refine L.addN rfl rfl (by omega) rfl ?_
  | refine L.mulN rfl rfl (by omega) rfl ?_
  | refine L.subN rfl rfl (by omega) (by omega) rfl ?_
  | refine L.remN rfl rfl (by omega) rfl ?_
  | refine L.quoN rfl rfl (by omega) (by omega) rfl ?_
  | refine L.quoB rfl rfl (by decide) rfl ?_
  | refine L.not rfl rfl ?_
  | refine L.convB rfl rfl ?_
  | refine L.convN rfl rfl ?_
  | refine L.extract rfl rfl rfl rfl ?_
  | refine L.atA0 rfl rfl (by omega) rfl ?_
  | refine L.atA rfl rfl (by omega) rfl ?_
  | refine L.atA0s rfl rfl (by omega) rfl ?_
  | refine L.atS0 rfl rfl (by omega) rfl ?_
  | refine L.atS rfl rfl (by omega) rfl ?_
  | refine L.atS0s rfl rfl (by omega) rfl ?_
  | refine L.len rfl rfl ?_
  | refine L.lenNil rfl rfl ?_
  | refine L.slLo rfl rfl (by omega) rfl rfl ?_
  | refine L.slBoth rfl rfl rfl (by omega) (by omega) (by omega) rfl rfl ?_
  | refine L.slHi rfl rfl (by omega) rfl rfl ?_
  | refine L.slAll rfl rfl rfl ?_
  | refine L.indexW rfl rfl (by omega) (by omega) rfl ?_
  | refine L.loadW rfl rfl (by first | omega | (simp only [List.length_set]; omega)) rfl ?_
  | refine L.loadArr rfl rfl (by assumption) rfl ?_
  | refine L.loadL rfl rfl rfl rfl ?_
  | refine L.load rfl rfl rfl rfl ?_
  | refine L.boxA rfl rfl rfl ?_
  | refine L.box1 rfl rfl rfl rfl ?_
  | refine L.alloc rfl rfl ?_
  | refine L.storeW rfl rfl rfl (by first | omega | (simp only [List.length_set]; omega)) ?_
  | refine L.store rfl rfl rfl rfl (by omega) ?_
  | refine L.storeArr rfl rfl rfl (by first | assumption | rfl) (by first | assumption | rfl) ?_
  | refine L.storeA rfl rfl rfl rfl rfl ?_
  | refine L.pick rfl rfl rfl ?_
  | refine L.minmax rfl rfl rfl rfl ?_
  | refine L.eqArr rfl rfl (by first | assumption | rfl) (by first | assumption | rfl) rfl rfl ?_
  | refine L.str rfl rfl (by omega) rfl ?_
  | refine L.strNil rfl rfl ?_
  | refine L.cmpS rfl rfl rfl rfl ?_
  | refine L.make rfl rfl (by omega) (by omega) (by omega) rfl rfl ?_
  | refine L.bs1 rfl rfl rfl ?_
  | refine L.bs0 rfl rfl ?_
  | refine L.met rfl rfl rfl ?_
  | refine L.loadG rfl rfl (by kernel_rfl) rfl ?_))
      refine L.call0 (rblock_fn key nonce c hk hn) rfl rfl ?_
      refine L.met rfl rfl rfl ?_
      refine L.eqArr (r := true) rfl rfl hb1 hb1 (by simp [arrCmp]) rfl ?_
      repeat (first | refine Sp.seq ?_ | refine C.region ?_ | refine C.regionD (by kernel_rfl) ?_ | refine L.nil ?_ | refine L.nilD (by kernel_rfl) ?_ | (with_reducible refine C.next ?_) | refine Sp.block ?_ | refine Sp.skip ?_ | refine Sp.exit ?_ | (with_reducible refine C.bNormal ?_) | (with_reducible refine C.xSeq ?_) | (with_reducible refine C.xHit ?_) | (with_reducible refine C.xMiss rfl ?_) | (first
  | refine L.move rfl rfl ?_
  | refine L.assign rfl rfl ?_
  | refine L.bv rfl rfl rfl rfl ?_
  | refine L.shiftB rfl rfl rfl rfl ?_
  | refine L.shiftN rfl rfl rfl rfl ?_
  | refine L.bvCmp rfl rfl rfl rfl ?_
  | refine L.cmpN rfl rfl rfl rfl ?_
  | refine L.addN rfl rfl (by omega) rfl ?_
  | refine L.mulN rfl rfl (by omega) rfl ?_
  | refine L.subN rfl rfl (by omega) (by omega) rfl ?_
  | refine L.remN rfl rfl (by omega) rfl ?_
  | refine L.quoN rfl rfl (by omega) (by omega) rfl ?_
  | refine L.quoB rfl rfl (by decide) rfl ?_
  | refine L.not rfl rfl ?_
  | refine L.convB rfl rfl ?_
  | refine L.convN rfl rfl ?_
  | refine L.extract rfl rfl rfl rfl ?_
  | refine L.atA0 rfl rfl (by omega) rfl ?_
  | refine L.atA rfl rfl (by omega) rfl ?_
  | refine L.atA0s rfl rfl (by omega) rfl ?_
  | refine L.atS0 rfl rfl (by omega) rfl ?_
  | refine L.atS rfl rfl (by omega) rfl ?_
  | refine L.atS0s rfl rfl (by omega) rfl ?_
  | refine L.len rfl rfl ?_
  | refine L.lenNil rfl rfl ?_
  | refine L.slLo rfl rfl (by omega) rfl rfl ?_
  | refine L.slBoth rfl rfl rfl (by omega) (by omega) (by omega) rfl rfl ?_
  | refine L.slHi rfl rfl (by omega) rfl rfl ?_
  | refine L.slAll rfl rfl rfl ?_
  | refine L.indexW rfl rfl (by omega) (by omega) rfl ?_
  | refine L.loadW rfl rfl (by first | omega | (simp only [List.length_set]; omega)) rfl ?_
  | refine L.loadArr rfl rfl (by assumption) rfl ?_
  | refine L.loadL rfl rfl rfl rfl ?_
  | refine L.load rfl rfl rfl rfl ?_
  | refine L.boxA rfl rfl rfl ?_
  | refine L.box1 rfl rfl rfl rfl ?_
  | refine L.alloc rfl rfl ?_
  | refine L.storeW rfl rfl rfl (by first | omega | (simp only [List.length_set]; omega)) ?_
  | refine L.store rfl rfl rfl rfl (by omega) ?_
  | refine L.storeArr rfl rfl rfl (by first | assumption | rfl) (by first | assumption | rfl) ?_
  | refine L.storeA rfl rfl rfl rfl rfl ?_
  | refine L.pick rfl rfl rfl ?_
  | refine L.minmax rfl rfl rfl rfl ?_
  | refine L.eqArr rfl rfl (by first | assumption | rfl) (by first | assumption | rfl) rfl rfl ?_
  | refine L.str rfl rfl (by omega) rfl ?_
  | refine L.strNil rfl rfl ?_
  | refine L.make rfl rfl (by omega) (by omega) (by omega) rfl rfl ?_
  | refine L.bs1 rfl rfl rfl ?_
  | refine L.bs0 rfl rfl ?_
  | refine L.met rfl rfl rfl ?_
  | refine L.loadG rfl rfl (by kernel_rfl) rfl ?_))
      refine L.cmpS (r := true) rfl rfl (by simp [strCmp]) rfl ?_
      repeat (first | refine Sp.seq ?_ | refine C.region ?_ | refine C.regionD (by kernel_rfl) ?_ | refine L.nil ?_ | refine L.nilD (by kernel_rfl) ?_ | (with_reducible refine C.next ?_) | refine Sp.block ?_ | refine Sp.skip ?_ | refine Sp.exit ?_ | (with_reducible refine C.bNormal ?_) | (with_reducible refine C.xSeq ?_) | (with_reducible refine C.xHit ?_) | (with_reducible refine C.xMiss rfl ?_) | (first
  | refine L.move rfl rfl ?_
  | refine L.assign rfl rfl ?_
  | refine L.bv rfl rfl rfl rfl ?_
  | refine L.shiftB rfl rfl rfl rfl ?_
  | refine L.shiftN rfl rfl rfl rfl ?_
  | refine L.bvCmp rfl rfl rfl rfl ?_
  | refine L.cmpN rfl rfl rfl rfl ?_
  | refine L.addN rfl rfl (by omega) rfl ?_
  | refine L.mulN rfl rfl (by omega) rfl ?_
  | refine L.subN rfl rfl (by omega) (by omega) rfl ?_
  | refine L.remN rfl rfl (by omega) rfl ?_
  | refine L.quoN rfl rfl (by omega) (by omega) rfl ?_
  | refine L.quoB rfl rfl (by decide) rfl ?_
  | refine L.not rfl rfl ?_
  | refine L.convB rfl rfl ?_
  | refine L.convN rfl rfl ?_
  | refine L.extract rfl rfl rfl rfl ?_
  | refine L.atA0 rfl rfl (by omega) rfl ?_
  | refine L.atA rfl rfl (by omega) rfl ?_
  | refine L.atA0s rfl rfl (by omega) rfl ?_
  | refine L.atS0 rfl rfl (by omega) rfl ?_
  | refine L.atS rfl rfl (by omega) rfl ?_
  | refine L.atS0s rfl rfl (by omega) rfl ?_
  | refine L.len rfl rfl ?_
  | refine L.lenNil rfl rfl ?_
  | refine L.slLo rfl rfl (by omega) rfl rfl ?_
  | refine L.slBoth rfl rfl rfl (by omega) (by omega) (by omega) rfl rfl ?_
  | refine L.slHi rfl rfl (by omega) rfl rfl ?_
  | refine L.slAll rfl rfl rfl ?_
  | refine L.indexW rfl rfl (by omega) (by omega) rfl ?_
  | refine L.loadW rfl rfl (by first | omega | (simp only [List.length_set]; omega)) rfl ?_
  | refine L.loadArr rfl rfl (by assumption) rfl ?_
  | refine L.loadL rfl rfl rfl rfl ?_
  | refine L.load rfl rfl rfl rfl ?_
  | refine L.boxA rfl rfl rfl ?_
  | refine L.box1 rfl rfl rfl rfl ?_
  | refine L.alloc rfl rfl ?_
  | refine L.storeW rfl rfl rfl (by first | omega | (simp only [List.length_set]; omega)) ?_
  | refine L.store rfl rfl rfl rfl (by omega) ?_
  | refine L.storeArr rfl rfl rfl (by first | assumption | rfl) (by first | assumption | rfl) ?_
  | refine L.storeA rfl rfl rfl rfl rfl ?_
  | refine L.pick rfl rfl rfl ?_
  | refine L.minmax rfl rfl rfl rfl ?_
  | refine L.eqArr rfl rfl (by first | assumption | rfl) (by first | assumption | rfl) rfl rfl ?_
  | refine L.str rfl rfl (by omega) rfl ?_
  | refine L.strNil rfl rfl ?_
  | refine L.cmpS rfl rfl rfl rfl ?_
  | refine L.make rfl rfl (by omega) (by omega) (by omega) rfl rfl ?_
  | refine L.bs1 rfl rfl rfl ?_
  | refine L.bs0 rfl rfl ?_
  | refine L.met rfl rfl rfl ?_
  | refine L.loadG rfl rfl (by kernel_rfl) rfl ?_))
      exact Sp.ret (retK.t1 [] rfl rfl (Less.nil _) ⟨rfl, rfl⟩)
    · have hxl := xorTo_length key c nonce (b.take n) n n
      refine L.callNew [(4, 0)] [⟨8, .u8, b.take n⟩] (V' := .tuple #[.slice (some ⟨5, 0, none⟩) n n, .int .i64 ((0 : Nat) : Int)]) (xor_fn key nonce (b.take n) c n (capU + 1) hk hn (by omega) (by omega) hL) rfl rfl (by simp only [List.map_cons, List.map_nil, rn_arr]; rfl) ⟨⟨b.take n, true, true, rfl, rfl, by omega, by decide⟩, trivial⟩ rfl rfl rfl (by kernel_rfl) (N3_two (fun h => by cases h) trivial) rfl rfl ?_
      repeat (first | refine Sp.seq ?_ | refine C.region ?_ | refine C.regionD (by kernel_rfl) ?_ | refine L.nil ?_ | refine L.nilD (by kernel_rfl) ?_ | (with_reducible refine C.next ?_) | refine Sp.block ?_ | refine Sp.skip ?_ | refine Sp.exit ?_ | (with_reducible refine C.bNormal ?_) | (with_reducible refine C.xSeq ?_) | (with_reducible refine C.xHit ?_) | (with_reducible refine C.xMiss rfl ?_) | (first
  | refine L.move rfl rfl ?_
  | refine L.assign rfl rfl ?_
  | refine L.bv rfl rfl rfl rfl ?_
  | refine L.shiftB rfl rfl rfl rfl ?_
  | refine L.shiftN rfl rfl rfl rfl ?_
  | refine L.bvCmp rfl rfl rfl rfl ?_
  | refine L.cmpN rfl rfl rfl rfl ?_
  | refine L.addN rfl rfl (by omega) rfl ?_
  | refine L.mulN rfl rfl (by omega) rfl ?_
  | refine L.subN rfl rfl (by omega) (by omega) rfl ?_
  | refine L.remN rfl rfl (by omega) rfl ?_
  | refine L.quoN rfl rfl (by omega) (by omega) rfl ?_
  | refine L.quoB rfl rfl (by decide) rfl ?_
  | refine L.not rfl rfl ?_
  | refine L.convB rfl rfl ?_
  | refine L.convN rfl rfl ?_
  | refine L.extract rfl rfl rfl rfl ?_
  | refine L.atA0 rfl rfl (by omega) rfl ?_
  | refine L.atA rfl rfl (by omega) rfl ?_
  | refine L.atA0s rfl rfl (by omega) rfl ?_
  | refine L.atS0 rfl rfl (by omega) rfl ?_
  | refine L.atS rfl rfl (by omega) rfl ?_
  | refine L.atS0s rfl rfl (by omega) rfl ?_
  | refine L.len rfl rfl ?_
  | refine L.lenNil rfl rfl ?_
  | refine L.slLo rfl rfl (by omega) rfl rfl ?_
  | refine L.slBoth rfl rfl rfl (by omega) (by omega) (by omega) rfl rfl ?_
  | refine L.slHi rfl rfl (by omega) rfl rfl ?_
  | refine L.slAll rfl rfl rfl ?_
  | refine L.indexW rfl rfl (by omega) (by omega) rfl ?_
  | refine L.loadW rfl rfl (by first | omega | (simp only [List.length_set]; omega)) rfl ?_
  | refine L.loadArr rfl rfl (by assumption) rfl ?_
  | refine L.loadL rfl rfl rfl rfl ?_
  | refine L.load rfl rfl rfl rfl ?_
  | refine L.boxA rfl rfl rfl ?_
  | refine L.box1 rfl rfl rfl rfl ?_
  | refine L.alloc rfl rfl ?_
  | refine L.storeW rfl rfl rfl (by first | omega | (simp only [List.length_set]; omega)) ?_
  | refine L.store rfl rfl rfl rfl (by omega) ?_
  | refine L.storeArr rfl rfl rfl (by first | assumption | rfl) (by first | assumption | rfl) ?_
  | refine L.storeA rfl rfl rfl rfl rfl ?_
  | refine L.pick rfl rfl rfl ?_
  | refine L.minmax rfl rfl rfl rfl ?_
  | refine L.eqArr rfl rfl (by first | assumption | rfl) (by first | assumption | rfl) rfl rfl ?_
  | refine L.str rfl rfl (by omega) rfl ?_
  | refine L.strNil rfl rfl ?_
  | refine L.cmpS rfl rfl rfl rfl ?_
  | refine L.make rfl rfl (by omega) (by omega) (by omega) rfl rfl ?_
  | refine L.bs1 rfl rfl rfl ?_
  | refine L.bs0 rfl rfl ?_
  | refine L.met rfl rfl rfl ?_
  | refine L.loadG rfl rfl (by kernel_rfl) rfl ?_))
      by_cases h0 : n = 0
      · subst h0
        refine L.callRo [(0, 0)] [⟨8, .u8, b⟩] (rxor_zero key nonce b c cp hk hn) rfl rfl (by simp only [List.map_cons, List.map_nil, rn_arr]; rfl) ⟨⟨b, true, false, rfl, rfl, by omega, by decide⟩, trivial⟩ rfl ?_
        repeat (first | refine Sp.seq ?_ | refine C.region ?_ | refine C.regionD (by kernel_rfl) ?_ | refine L.nil ?_ | refine L.nilD (by kernel_rfl) ?_ | (with_reducible refine C.next ?_) | refine Sp.block ?_ | refine Sp.skip ?_ | refine Sp.exit ?_ | (with_reducible refine C.bNormal ?_) | (with_reducible refine C.xSeq ?_) | (with_reducible refine C.xHit ?_) | (with_reducible refine C.xMiss rfl ?_) | refine L.bvCmp (c := true) rfl rfl (by simp [bvCmp]) rfl ?_ | (first
  | refine L.move rfl rfl ?_
  | refine L.assign rfl rfl ?_
  | refine L.bv rfl rfl rfl rfl ?_
  | refine L.shiftB rfl rfl rfl rfl ?_
  | refine L.shiftN rfl rfl rfl rfl ?_
  | refine L.bvCmp rfl rfl rfl rfl ?_
  | refine L.cmpN rfl rfl rfl rfl ?_
  | refine L.addN rfl rfl (by omega) rfl ?_
  | refine L.mulN rfl rfl (by omega) rfl ?_
  | refine L.subN rfl rfl (by omega) (by omega) rfl ?_
  | refine L.remN rfl rfl (by omega) rfl ?_
  | refine L.quoN rfl rfl (by omega) (by omega) rfl ?_
  | refine L.quoB rfl rfl (by decide) rfl ?_
  | refine L.not rfl rfl ?_
  | refine L.convB rfl rfl ?_
  | refine L.convN rfl rfl ?_
  | refine L.extract rfl rfl rfl rfl ?_
  | refine L.atA0 rfl rfl (by omega) rfl ?_
  | refine L.atA rfl rfl (by omega) rfl ?_
  | refine L.atA0s rfl rfl (by omega) rfl ?_
  | refine L.atS0 rfl rfl (by omega) rfl ?_
  | refine L.atS rfl rfl (by omega) rfl ?_
  | refine L.atS0s rfl rfl (by omega) rfl ?_
  | refine L.len rfl rfl ?_
  | refine L.lenNil rfl rfl ?_
  | refine L.slLo rfl rfl (by omega) rfl rfl ?_
  | refine L.slBoth rfl rfl rfl (by omega) (by omega) (by omega) rfl rfl ?_
  | refine L.slHi rfl rfl (by omega) rfl rfl ?_
  | refine L.slAll rfl rfl rfl ?_
  | refine L.indexW rfl rfl (by omega) (by omega) rfl ?_
  | refine L.loadW rfl rfl (by first | omega | (simp only [List.length_set]; omega)) rfl ?_
  | refine L.loadArr rfl rfl (by assumption) rfl ?_
  | refine L.loadL rfl rfl rfl rfl ?_
  | refine L.load rfl rfl rfl rfl ?_
  | refine L.boxA rfl rfl rfl ?_
  | refine L.box1 rfl rfl rfl rfl ?_
  | refine L.alloc rfl rfl ?_
  | refine L.storeW rfl rfl rfl (by first | omega | (simp only [List.length_set]; omega)) ?_
  | refine L.store rfl rfl rfl rfl (by omega) ?_
  | refine L.storeArr rfl rfl rfl (by first | assumption | rfl) (by first | assumption | rfl) ?_
  | refine L.storeA rfl rfl rfl rfl rfl ?_
  | refine L.pick rfl rfl rfl ?_
  | refine L.minmax rfl rfl rfl rfl ?_
  | refine L.eqArr rfl rfl (by first | assumption | rfl) (by first | assumption | rfl) rfl rfl ?_
  | refine L.str rfl rfl (by omega) rfl ?_
  | refine L.strNil rfl rfl ?_
  | refine L.cmpS rfl rfl rfl rfl ?_
  | refine L.make rfl rfl (by omega) (by omega) (by omega) rfl rfl ?_
  | refine L.bs1 rfl rfl rfl ?_
  | refine L.bs0 rfl rfl ?_
  | refine L.met rfl rfl rfl ?_
  | refine L.loadG rfl rfl (by kernel_rfl) rfl ?_))
        refine L.call0 (round_fn w hw) rfl rfl ?_
        repeat (first | refine Sp.seq ?_ | refine C.region ?_ | refine C.regionD (by kernel_rfl) ?_ | refine L.nil ?_ | refine L.nilD (by kernel_rfl) ?_ | (with_reducible refine C.next ?_) | refine Sp.block ?_ | refine Sp.skip ?_ | refine Sp.exit ?_ | (with_reducible refine C.bNormal ?_) | (with_reducible refine C.xSeq ?_) | (with_reducible refine C.xHit ?_) | (with_reducible refine C.xMiss rfl ?_) | (first
  | refine L.move rfl rfl ?_
  | refine L.assign rfl rfl ?_
  | refine L.bv rfl rfl rfl rfl ?_
  | refine L.shiftB rfl rfl rfl rfl ?_
  | refine L.shiftN rfl rfl rfl rfl ?_
  | refine L.bvCmp rfl rfl rfl rfl ?_
  | refine L.cmpN rfl rfl rfl rfl ?_
  | refine L.addN rfl rfl (by omega) rfl ?_
  | refine L.mulN rfl rfl (by omega) rfl ?_
  | refine L.subN rfl rfl (by omega) (by omega) rfl ?_
  | refine L.remN rfl rfl (by omega) rfl ?_
  | refine L.quoN rfl rfl (by omega) (by omega) rfl ?_
  | refine L.quoB rfl rfl (by decide) rfl ?_
  | refine L.not rfl rfl ?_
  | refine L.convB rfl rfl ?_
  | refine L.convN rfl rfl ?_
  | refine L.extract rfl rfl rfl rfl ?_
  | refine L.atA0 rfl rfl (by omega) rfl ?_
  | refine L.atA rfl rfl (by omega) rfl ?_
  | refine L.atA0s rfl rfl (by omega) rfl ?_
  | refine L.atS0 rfl rfl (by omega) rfl ?_
  | refine L.atS rfl rfl (by omega) rfl ?_
  | refine L.atS0s rfl rfl (by omega) rfl ?_
  | refine L.len rfl rfl ?_
  | refine L.lenNil rfl rfl ?_
  | refine L.slLo rfl rfl (by omega) rfl rfl ?_
  | refine L.slBoth rfl rfl rfl (by omega) (by omega) (by omega) rfl rfl ?_
  | refine L.slHi rfl rfl (by omega) rfl rfl ?_
  | refine L.slAll rfl rfl rfl ?_
  | refine L.indexW rfl rfl (by omega) (by omega) rfl ?_
  | refine L.loadW rfl rfl (by first | omega | (simp only [List.length_set]; omega)) rfl ?_
  | refine L.loadArr rfl rfl (by assumption) rfl ?_
  | refine L.loadL rfl rfl rfl rfl ?_
  | refine L.load rfl rfl rfl rfl ?_
  | refine L.boxA rfl rfl rfl ?_
  | refine L.box1 rfl rfl rfl rfl ?_
  | refine L.alloc rfl rfl ?_
  | refine L.storeW rfl rfl rfl (by first | omega | (simp only [List.length_set]; omega)) ?_
  | refine L.store rfl rfl rfl rfl (by omega) ?_
  | refine L.storeArr rfl rfl rfl (by first | assumption | rfl) (by first | assumption | rfl) ?_
  | refine L.storeA rfl rfl rfl rfl rfl ?_
  | refine L.pick rfl rfl rfl ?_
  | refine L.minmax rfl rfl rfl rfl ?_
  | refine L.eqArr rfl rfl (by first | assumption | rfl) (by first | assumption | rfl) rfl rfl ?_
  | refine L.str rfl rfl (by omega) rfl ?_
  | refine L.strNil rfl rfl ?_
  | refine L.cmpS rfl rfl rfl rfl ?_
  | refine L.make rfl rfl (by omega) (by omega) (by omega) rfl rfl ?_
  | refine L.bs1 rfl rfl rfl ?_
  | refine L.bs0 rfl rfl ?_
  | refine L.met rfl rfl rfl ?_
  | refine L.loadG rfl rfl (by kernel_rfl) rfl ?_))
        refine L.call0 (rround_fn w hw) rfl rfl ?_
        refine L.met rfl rfl rfl ?_
        refine L.eqArr (r := true) rfl rfl hr8 hr8 (by simp [arrCmp]) rfl ?_
        repeat (first | refine Sp.seq ?_ | refine C.region ?_ | refine C.regionD (by kernel_rfl) ?_ | refine L.nil ?_ | refine L.nilD (by kernel_rfl) ?_ | (with_reducible refine C.next ?_) | refine Sp.block ?_ | refine Sp.skip ?_ | refine Sp.exit ?_ | (with_reducible refine C.bNormal ?_) | (with_reducible refine C.xSeq ?_) | (with_reducible refine C.xHit ?_) | (with_reducible refine C.xMiss rfl ?_) | (first
  | refine L.move rfl rfl ?_
  | refine L.assign rfl rfl ?_
  | refine L.bv rfl rfl rfl rfl ?_
  | refine L.shiftB rfl rfl rfl rfl ?_
  | refine L.shiftN rfl rfl rfl rfl ?_
  | refine L.bvCmp rfl rfl rfl rfl ?_
  | refine L.cmpN rfl rfl rfl rfl ?_
  | refine L.addN rfl rfl (by omega) rfl ?_
  | refine L.mulN rfl rfl (by omega) rfl ?_
  | refine L.subN rfl rfl (by omega) (by omega) rfl ?_
  | refine L.remN rfl rfl (by omega) rfl ?_
  | refine L.quoN rfl rfl (by omega) (by omega) rfl ?_
  | refine L.quoB rfl rfl (by decide) rfl ?_
  | refine L.not rfl rfl ?_
  | refine L.convB rfl rfl ?_
  | refine L.convN rfl rfl ?_
  | refine L.extract rfl rfl rfl rfl ?_
  | refine L.atA0 rfl rfl (by omega) rfl ?_
  | refine L.atA rfl rfl (by omega) rfl ?_
  | refine L.atA0s rfl rfl (by omega) rfl ?_
  | refine L.atS0 rfl rfl (by omega) rfl ?_
  | refine L.atS rfl rfl (by omega) rfl ?_
  | refine L.atS0s rfl rfl (by omega) rfl ?_
  | refine L.len rfl rfl ?_
  | refine L.lenNil rfl rfl ?_
  | refine L.slLo rfl rfl (by omega) rfl rfl ?_
  | refine L.slBoth rfl rfl rfl (by omega) (by omega) (by omega) rfl rfl ?_
  | refine L.slHi rfl rfl (by omega) rfl rfl ?_
  | refine L.slAll rfl rfl rfl ?_
  | refine L.indexW rfl rfl (by omega) (by omega) rfl ?_
  | refine L.loadW rfl rfl (by first | omega | (simp only [List.length_set]; omega)) rfl ?_
  | refine L.loadArr rfl rfl (by assumption) rfl ?_
  | refine L.loadL rfl rfl rfl rfl ?_
  | refine L.load rfl rfl rfl rfl ?_
  | refine L.boxA rfl rfl rfl ?_
  | refine L.box1 rfl rfl rfl rfl ?_
  | refine L.alloc rfl rfl ?_
  | refine L.storeW rfl rfl rfl (by first | omega | (simp only [List.length_set]; omega)) ?_
  | refine L.store rfl rfl rfl rfl (by omega) ?_
  | refine L.storeArr rfl rfl rfl (by first | assumption | rfl) (by first | assumption | rfl) ?_
  | refine L.storeA rfl rfl rfl rfl rfl ?_
  | refine L.pick rfl rfl rfl ?_
  | refine L.minmax rfl rfl rfl rfl ?_
  | refine L.eqArr rfl rfl (by first | assumption | rfl) (by first | assumption | rfl) rfl rfl ?_
  | refine L.str rfl rfl (by omega) rfl ?_
  | refine L.strNil rfl rfl ?_
  | refine L.cmpS rfl rfl rfl rfl ?_
  | refine L.make rfl rfl (by omega) (by omega) (by omega) rfl rfl ?_
  | refine L.bs1 rfl rfl rfl ?_
  | refine L.bs0 rfl rfl ?_
  | refine L.met rfl rfl rfl ?_
  | refine L.loadG rfl rfl (by kernel_rfl) rfl ?_))
        refine L.call0 (state_fn key nonce c hk hn) rfl rfl ?_
        repeat (first | refine Sp.seq ?_ | refine C.region ?_ | refine C.regionD (by kernel_rfl) ?_ | refine L.nil ?_ | refine L.nilD (by kernel_rfl) ?_ | (with_reducible refine C.next ?_) | refine Sp.block ?_ | refine Sp.skip ?_ | refine Sp.exit ?_ | (with_reducible refine C.bNormal ?_) | (with_reducible refine C.xSeq ?_) | (with_reducible refine C.xHit ?_) | (with_reducible refine C.xMiss rfl ?_) | (first
  | refine L.move rfl rfl ?_
  | refine L.assign rfl rfl ?_
  | refine L.bv rfl rfl rfl rfl ?_
  | refine L.shiftB rfl rfl rfl rfl ?_
  | refine L.shiftN rfl rfl rfl rfl ?_
  | refine L.bvCmp rfl rfl rfl rfl ?_
  | refine L.cmpN rfl rfl rfl rfl ?_
  | refine L.addN rfl rfl (by omega) rfl ?_
  | refine L.mulN rfl rfl (by omega) rfl ?_
  | refine L.subN rfl rfl (by omega) (by omega) rfl ?_
  | refine L.remN rfl rfl (by omega) rfl ?_
  | refine L.quoN rfl rfl (by omega) (by omega) rfl ?_
  | refine L.quoB rfl rfl (by decide) rfl ?_
  | refine L.not rfl rfl ?_
  | refine L.convB rfl rfl ?_
  | refine L.convN rfl rfl ?_
  | refine L.extract rfl rfl rfl rfl ?_
  | refine L.atA0 rfl rfl (by omega) rfl ?_
  | refine L.atA rfl rfl (by omega) rfl ?_
  | refine L.atA0s rfl rfl (by omega) rfl ?_
  | refine L.atS0 rfl rfl (by omega) rfl ?_
  | refine L.atS rfl rfl (by omega) rfl ?_
  | refine L.atS0s rfl rfl (by omega) rfl ?_
  | refine L.len rfl rfl ?_
  | refine L.lenNil rfl rfl ?_
  | refine L.slLo rfl rfl (by omega) rfl rfl ?_
  | refine L.slBoth rfl rfl rfl (by omega) (by omega) (by omega) rfl rfl ?_
  | refine L.slHi rfl rfl (by omega) rfl rfl ?_
  | refine L.slAll rfl rfl rfl ?_
  | refine L.indexW rfl rfl (by omega) (by omega) rfl ?_
  | refine L.loadW rfl rfl (by first | omega | (simp only [List.length_set]; omega)) rfl ?_
  | refine L.loadArr rfl rfl (by assumption) rfl ?_
  | refine L.loadL rfl rfl rfl rfl ?_
  | refine L.load rfl rfl rfl rfl ?_
  | refine L.boxA rfl rfl rfl ?_
  | refine L.box1 rfl rfl rfl rfl ?_
  | refine L.alloc rfl rfl ?_
  | refine L.storeW rfl rfl rfl (by first | omega | (simp only [List.length_set]; omega)) ?_
  | refine L.store rfl rfl rfl rfl (by omega) ?_
  | refine L.storeArr rfl rfl rfl (by first | assumption | rfl) (by first | assumption | rfl) ?_
  | refine L.storeA rfl rfl rfl rfl rfl ?_
  | refine L.pick rfl rfl rfl ?_
  | refine L.minmax rfl rfl rfl rfl ?_
  | refine L.eqArr rfl rfl (by first | assumption | rfl) (by first | assumption | rfl) rfl rfl ?_
  | refine L.str rfl rfl (by omega) rfl ?_
  | refine L.strNil rfl rfl ?_
  | refine L.cmpS rfl rfl rfl rfl ?_
  | refine L.make rfl rfl (by omega) (by omega) (by omega) rfl rfl ?_
  | refine L.bs1 rfl rfl rfl ?_
  | refine L.bs0 rfl rfl ?_
  | refine L.met rfl rfl rfl ?_
  | refine L.loadG rfl rfl (by kernel_rfl) rfl ?_))
        refine L.call0 (rstate_fn key nonce c hk hn) rfl rfl ?_
        refine L.met rfl rfl rfl ?_
        refine L.eqArr (r := true) rfl rfl hs1 hs1 (by simp [arrCmp]) rfl ?_
        repeat (first | refine Sp.seq ?_ | refine C.region ?_ | refine C.regionD (by kernel_rfl) ?_ | refine L.nil ?_ | refine L.nilD (by kernel_rfl) ?_ | (with_reducible refine C.next ?_) | refine Sp.block ?_ | refine Sp.skip ?_ | refine Sp.exit ?_ | (with_reducible refine C.bNormal ?_) | (with_reducible refine C.xSeq ?_) | (with_reducible refine C.xHit ?_) | (with_reducible refine C.xMiss rfl ?_) | (first
  | refine L.move rfl rfl ?_
  | refine L.assign rfl rfl ?_
  | refine L.bv rfl rfl rfl rfl ?_
  | refine L.shiftB rfl rfl rfl rfl ?_
  | refine L.shiftN rfl rfl rfl rfl ?_
  | refine L.bvCmp rfl rfl rfl rfl ?_
  | refine L.cmpN rfl rfl rfl rfl ?_
  | refine L.addN rfl rfl (by omega) rfl ?_
  | refine L.mulN rfl rfl (by omega) rfl ?_
  | refine L.subN rfl rfl (by omega) (by omega) rfl ?_
  | refine L.remN rfl rfl (by omega) rfl ?_
  | refine L.quoN rfl rfl (by omega) (by omega) rfl ?_
  | refine L.quoB rfl rfl (by decide) rfl ?_
  | refine L.not rfl rfl ?_
  | refine L.convB rfl rfl ?_
  | refine L.convN rfl rfl ?_
  | refine L.extract rfl rfl rfl rfl ?_
  | refine L.atA0 rfl rfl (by omega) rfl ?_
  | refine L.atA rfl rfl (by omega) rfl ?_
  | refine L.atA0s rfl rfl (by omega) rfl ?_
  | refine L.atS0 rfl rfl (by omega) rfl ?_
  | refine L.atS rfl rfl (by omega) rfl ?_
  | refine L.atS0s rfl rfl (by omega) rfl ?_
  | refine L.len rfl rfl ?_
  | refine L.lenNil rfl rfl ?_
  | refine L.slLo rfl rfl (by omega) rfl rfl ?_
  | refine L.slBoth rfl rfl rfl (by omega) (by omega) (by omega) rfl rfl ?_
  | refine L.slHi rfl rfl (by omega) rfl rfl ?_
  | refine L.slAll rfl rfl rfl ?_
  | refine L.indexW rfl rfl (by omega) (by omega) rfl ?_
  | refine L.loadW rfl rfl (by first | omega | (simp only [List.length_set]; omega)) rfl ?_
  | refine L.loadArr rfl rfl (by assumption) rfl ?_
  | refine L.loadL rfl rfl rfl rfl ?_
  | refine L.load rfl rfl rfl rfl ?_
  | refine L.boxA rfl rfl rfl ?_
  | refine L.box1 rfl rfl rfl rfl ?_
  | refine L.alloc rfl rfl ?_
  | refine L.storeW rfl rfl rfl (by first | omega | (simp only [List.length_set]; omega)) ?_
  | refine L.store rfl rfl rfl rfl (by omega) ?_
  | refine L.storeArr rfl rfl rfl (by first | assumption | rfl) (by first | assumption | rfl) ?_
  | refine L.storeA rfl rfl rfl rfl rfl ?_
  | refine L.pick rfl rfl rfl ?_
  | refine L.minmax rfl rfl rfl rfl ?_
  | refine L.eqArr rfl rfl (by first | assumption | rfl) (by first | assumption | rfl) rfl rfl ?_
  | refine L.str rfl rfl (by omega) rfl ?_
  | refine L.strNil rfl rfl ?_
  | refine L.cmpS rfl rfl rfl rfl ?_
  | refine L.make rfl rfl (by omega) (by omega) (by omega) rfl rfl ?_
  | refine L.bs1 rfl rfl rfl ?_
  | refine L.bs0 rfl rfl ?_
  | refine L.met rfl rfl rfl ?_
  | refine L.loadG rfl rfl (by kernel_rfl) rfl ?_))
        refine L.call0 (block_fn key nonce c hk hn) rfl rfl ?_
        repeat (first | refine Sp.seq ?_ | refine C.region ?_ | refine C.regionD (by kernel_rfl) ?_ | refine L.nil ?_ | refine L.nilD (by kernel_rfl) ?_ | (with_reducible refine C.next ?_) | refine Sp.block ?_ | refine Sp.skip ?_ | refine Sp.exit ?_ | (with_reducible refine C.bNormal ?_) | (with_reducible refine C.xSeq ?_) | (with_reducible refine C.xHit ?_) | (with_reducible refine C.xMiss rfl ?_) | (first
  | refine L.move rfl rfl ?_
  | refine L.assign rfl rfl ?_
  | refine L.bv rfl rfl rfl rfl ?_
  | refine L.shiftB rfl rfl rfl rfl ?_
  | refine L.shiftN rfl rfl rfl rfl ?_
  | refine L.bvCmp rfl rfl rfl rfl ?_
  | refine L.cmpN rfl rfl rfl rfl ?_
  | refine L.addN rfl rfl (by omega) rfl ?_
  | refine L.mulN rfl rfl (by omega) rfl ?_
  | refine L.subN rfl rfl (by omega) (by omega) rfl ?_
  | refine L.remN rfl rfl (by omega) rfl ?_
  | refine L.quoN rfl rfl (by omega) (by omega) rfl ?_
  | refine L.quoB rfl rfl (by decide) rfl ?_
  | refine L.not rfl rfl ?_
  | refine L.convB rfl rfl ?_
  | refine L.convN rfl rfl ?_
  | refine L.extract rfl rfl rfl rfl ?_
  | refine L.atA0 rfl rfl (by omega) rfl ?_
  | refine L.atA rfl rfl (by omega) rfl ?_
  | refine L.atA0s rfl rfl (by omega) rfl ?_
  | refine L.atS0 rfl rfl (by omega) rfl ?_
  | refine L.atS rfl rfl (by omega) rfl ?_
  | refine L.atS0s rfl rfl (by omega) rfl ?_
  | refine L.len rfl rfl ?_
  | refine L.lenNil rfl rfl ?_
  | refine L.slLo rfl rfl (by omega) rfl rfl ?_
  | refine L.slBoth rfl rfl rfl (by omega) (by omega) (by omega) rfl rfl ?_
  | refine L.slHi rfl rfl (by omega) rfl rfl ?_
  | refine L.slAll rfl rfl rfl ?_
  | refine L.indexW rfl rfl (by omega) (by omega) rfl ?_
  | refine L.loadW rfl rfl (by first | omega | (simp only [List.length_set]; omega)) rfl ?_
  | refine L.loadArr rfl rfl (by assumption) rfl ?_
  | refine L.loadL rfl rfl rfl rfl ?_
  | refine L.load rfl rfl rfl rfl ?_
  | refine L.boxA rfl rfl rfl ?_
  | refine L.box1 rfl rfl rfl rfl ?_
  | refine L.alloc rfl rfl ?_
  | refine L.storeW rfl rfl rfl (by first | omega | (simp only [List.length_set]; omega)) ?_
  | refine L.store rfl rfl rfl rfl (by omega) ?_
  | refine L.storeArr rfl rfl rfl (by first | assumption | rfl) (by first | assumption | rfl) ?_
  | refine L.storeA rfl rfl rfl rfl rfl ?_
  | refine L.pick rfl rfl rfl ?_
  | refine L.minmax rfl rfl rfl rfl ?_
  | refine L.eqArr rfl rfl (by first | assumption | rfl) (by first | assumption | rfl) rfl rfl ?_
  | refine L.str rfl rfl (by omega) rfl ?_
  | refine L.strNil rfl rfl ?_
  | refine L.cmpS rfl rfl rfl rfl ?_
  | refine L.make rfl rfl (by omega) (by omega) (by omega) rfl rfl ?_
  | refine L.bs1 rfl rfl rfl ?_
  | refine L.bs0 rfl rfl ?_
  | refine L.met rfl rfl rfl ?_
  | refine L.loadG rfl rfl (by kernel_rfl) rfl ?_))
        refine L.call0 (rblock_fn key nonce c hk hn) rfl rfl ?_
        refine L.met rfl rfl rfl ?_
        refine L.eqArr (r := true) rfl rfl hb1 hb1 (by simp [arrCmp]) rfl ?_
        repeat (first | refine Sp.seq ?_ | refine C.region ?_ | refine C.regionD (by kernel_rfl) ?_ | refine L.nil ?_ | refine L.nilD (by kernel_rfl) ?_ | (with_reducible refine C.next ?_) | refine Sp.block ?_ | refine Sp.skip ?_ | refine Sp.exit ?_ | (with_reducible refine C.bNormal ?_) | (with_reducible refine C.xSeq ?_) | (with_reducible refine C.xHit ?_) | (with_reducible refine C.xMiss rfl ?_) | (first
  | refine L.move rfl rfl ?_
  | refine L.assign rfl rfl ?_
  | refine L.bv rfl rfl rfl rfl ?_
  | refine L.shiftB rfl rfl rfl rfl ?_
  | refine L.shiftN rfl rfl rfl rfl ?_
  | refine L.bvCmp rfl rfl rfl rfl ?_
  | refine L.cmpN rfl rfl rfl rfl ?_
  | refine L.addN rfl rfl (by omega) rfl ?_
  | refine L.mulN rfl rfl (by omega) rfl ?_
  | refine L.subN rfl rfl (by omega) (by omega) rfl ?_
  | refine L.remN rfl rfl (by omega) rfl ?_
  | refine L.quoN rfl rfl (by omega) (by omega) rfl ?_
  | refine L.quoB rfl rfl (by decide) rfl ?_
  | refine L.not rfl rfl ?_
  | refine L.convB rfl rfl ?_
  | refine L.convN rfl rfl ?_
  | refine L.extract rfl rfl rfl rfl ?_
  | refine L.atA0 rfl rfl (by omega) rfl ?_
  | refine L.atA rfl rfl (by omega) rfl ?_
  | refine L.atA0s rfl rfl (by omega) rfl ?_
  | refine L.atS0 rfl rfl (by omega) rfl ?_
  | refine L.atS rfl rfl (by omega) rfl ?_
  | refine L.atS0s rfl rfl (by omega) rfl ?_
  | refine L.len rfl rfl ?_
  | refine L.lenNil rfl rfl ?_
  | refine L.slLo rfl rfl (by omega) rfl rfl ?_
  | refine L.slBoth rfl rfl rfl (by omega) (by omega) (by omega) rfl rfl ?_
  | refine L.slHi rfl rfl (by omega) rfl rfl ?_
  | refine L.slAll rfl rfl rfl ?_
  | refine L.indexW rfl rfl (by omega) (by omega) rfl ?_
  | refine L.loadW rfl rfl (by first | omega | (simp only [List.length_set]; omega)) rfl ?_
  | refine L.loadArr rfl rfl (by assumption) rfl ?_
  | refine L.loadL rfl rfl rfl rfl ?_
  | refine L.load rfl rfl rfl rfl ?_
  | refine L.boxA rfl rfl rfl ?_
  | refine L.box1 rfl rfl rfl rfl ?_
  | refine L.alloc rfl rfl ?_
  | refine L.storeW rfl rfl rfl (by first | omega | (simp only [List.length_set]; omega)) ?_
  | refine L.store rfl rfl rfl rfl (by omega) ?_
  | refine L.storeArr rfl rfl rfl (by first | assumption | rfl) (by first | assumption | rfl) ?_
  | refine L.storeA rfl rfl rfl rfl rfl ?_
  | refine L.pick rfl rfl rfl ?_
  | refine L.minmax rfl rfl rfl rfl ?_
  | refine L.eqArr rfl rfl (by first | assumption | rfl) (by first | assumption | rfl) rfl rfl ?_
  | refine L.str rfl rfl (by omega) rfl ?_
  | refine L.strNil rfl rfl ?_
  | refine L.make rfl rfl (by omega) (by omega) (by omega) rfl rfl ?_
  | refine L.bs1 rfl rfl rfl ?_
  | refine L.bs0 rfl rfl ?_
  | refine L.met rfl rfl rfl ?_
  | refine L.loadG rfl rfl (by kernel_rfl) rfl ?_))
        refine L.cmpS (r := true) rfl rfl (by simp [strCmp, str]) rfl ?_
        repeat (first | refine Sp.seq ?_ | refine C.region ?_ | refine C.regionD (by kernel_rfl) ?_ | refine L.nil ?_ | refine L.nilD (by kernel_rfl) ?_ | (with_reducible refine C.next ?_) | refine Sp.block ?_ | refine Sp.skip ?_ | refine Sp.exit ?_ | (with_reducible refine C.bNormal ?_) | (with_reducible refine C.xSeq ?_) | (with_reducible refine C.xHit ?_) | (with_reducible refine C.xMiss rfl ?_) | (first
  | refine L.move rfl rfl ?_
  | refine L.assign rfl rfl ?_
  | refine L.bv rfl rfl rfl rfl ?_
  | refine L.shiftB rfl rfl rfl rfl ?_
  | refine L.shiftN rfl rfl rfl rfl ?_
  | refine L.bvCmp rfl rfl rfl rfl ?_
  | refine L.cmpN rfl rfl rfl rfl ?_
  | refine L.addN rfl rfl (by omega) rfl ?_
  | refine L.mulN rfl rfl (by omega) rfl ?_
  | refine L.subN rfl rfl (by omega) (by omega) rfl ?_
  | refine L.remN rfl rfl (by omega) rfl ?_
  | refine L.quoN rfl rfl (by omega) (by omega) rfl ?_
  | refine L.quoB rfl rfl (by decide) rfl ?_
  | refine L.not rfl rfl ?_
  | refine L.convB rfl rfl ?_
  | refine L.convN rfl rfl ?_
  | refine L.extract rfl rfl rfl rfl ?_
  | refine L.atA0 rfl rfl (by omega) rfl ?_
  | refine L.atA rfl rfl (by omega) rfl ?_
  | refine L.atA0s rfl rfl (by omega) rfl ?_
  | refine L.atS0 rfl rfl (by omega) rfl ?_
  | refine L.atS rfl rfl (by omega) rfl ?_
  | refine L.atS0s rfl rfl (by omega) rfl ?_
  | refine L.len rfl rfl ?_
  | refine L.lenNil rfl rfl ?_
  | refine L.slLo rfl rfl (by omega) rfl rfl ?_
  | refine L.slBoth rfl rfl rfl (by omega) (by omega) (by omega) rfl rfl ?_
  | refine L.slHi rfl rfl (by omega) rfl rfl ?_
  | refine L.slAll rfl rfl rfl ?_
  | refine L.indexW rfl rfl (by omega) (by omega) rfl ?_
  | refine L.loadW rfl rfl (by first | omega | (simp only [List.length_set]; omega)) rfl ?_
  | refine L.loadArr rfl rfl (by assumption) rfl ?_
  | refine L.loadL rfl rfl rfl rfl ?_
  | refine L.load rfl rfl rfl rfl ?_
  | refine L.boxA rfl rfl rfl ?_
  | refine L.box1 rfl rfl rfl rfl ?_
  | refine L.alloc rfl rfl ?_
  | refine L.storeW rfl rfl rfl (by first | omega | (simp only [List.length_set]; omega)) ?_
  | refine L.store rfl rfl rfl rfl (by omega) ?_
  | refine L.storeArr rfl rfl rfl (by first | assumption | rfl) (by first | assumption | rfl) ?_
  | refine L.storeA rfl rfl rfl rfl rfl ?_
  | refine L.pick rfl rfl rfl ?_
  | refine L.minmax rfl rfl rfl rfl ?_
  | refine L.eqArr rfl rfl (by first | assumption | rfl) (by first | assumption | rfl) rfl rfl ?_
  | refine L.str rfl rfl (by omega) rfl ?_
  | refine L.strNil rfl rfl ?_
  | refine L.cmpS rfl rfl rfl rfl ?_
  | refine L.make rfl rfl (by omega) (by omega) (by omega) rfl rfl ?_
  | refine L.bs1 rfl rfl rfl ?_
  | refine L.bs0 rfl rfl ?_
  | refine L.met rfl rfl rfl ?_
  | refine L.loadG rfl rfl (by kernel_rfl) rfl ?_))
        exact Sp.ret (retK.t1 [] rfl rfl (Less.nil _) ⟨rfl, rfl⟩)
      · have hzl := xl_length key c nonce b n
        have hyz : ((xorTo key c nonce (b.take n) n n).drop 0).take n = ((xl key c nonce b n).drop 0).take n := by
          rw [xorTo_take, xl_all]
        refine L.callNew [(0, 0)] [⟨8, .u8, b⟩] (V' := .tuple #[.slice (some ⟨6, 0, none⟩) n (capU + 1), .int .i64 ((0 : Nat) : Int)]) (rxor_fn key nonce b c n cp hk hn hb (by omega) (by omega) hL) rfl rfl (by simp only [List.map_cons, List.map_nil, rn_arr]; rfl) ⟨⟨b, true, false, rfl, rfl, by omega, by decide⟩, trivial⟩ rfl rfl rfl (by kernel_rfl) (N3_two (fun h => by cases h) trivial) rfl rfl ?_
        repeat (first | refine Sp.seq ?_ | refine C.region ?_ | refine C.regionD (by kernel_rfl) ?_ | refine L.nil ?_ | refine L.nilD (by kernel_rfl) ?_ | (with_reducible refine C.next ?_) | refine Sp.block ?_ | refine Sp.skip ?_ | refine Sp.exit ?_ | (with_reducible refine C.bNormal ?_) | (with_reducible refine C.xSeq ?_) | (with_reducible refine C.xHit ?_) | (with_reducible refine C.xMiss rfl ?_) | refine L.bvCmp (c := true) rfl rfl (by simp [bvCmp]) rfl ?_ | (first
  | refine L.move rfl rfl ?_
  | refine L.assign rfl rfl ?_
  | refine L.bv rfl rfl rfl rfl ?_
  | refine L.shiftB rfl rfl rfl rfl ?_
  | refine L.shiftN rfl rfl rfl rfl ?_
  | refine L.bvCmp rfl rfl rfl rfl ?_
  | refine L.cmpN rfl rfl rfl rfl ?_
  | refine L.addN rfl rfl (by omega) rfl ?_
  | refine L.mulN rfl rfl (by omega) rfl ?_
  | refine L.subN rfl rfl (by omega) (by omega) rfl ?_
  | refine L.remN rfl rfl (by omega) rfl ?_
  | refine L.quoN rfl rfl (by omega) (by omega) rfl ?_
  | refine L.quoB rfl rfl (by decide) rfl ?_
  | refine L.not rfl rfl ?_
  | refine L.convB rfl rfl ?_
  | refine L.convN rfl rfl ?_
  | refine L.extract rfl rfl rfl rfl ?_
  | refine L.atA0 rfl rfl (by omega) rfl ?_
  | refine L.atA rfl rfl (by omega) rfl ?_
  | refine L.atA0s rfl rfl (by omega) rfl ?_
  | refine L.atS0 rfl rfl (by omega) rfl ?_
  | refine L.atS rfl rfl (by omega) rfl ?_
  | refine L.atS0s rfl rfl (by omega) rfl ?_
  | refine L.len rfl rfl ?_
  | refine L.lenNil rfl rfl ?_
  | refine L.slLo rfl rfl (by omega) rfl rfl ?_
  | refine L.slBoth rfl rfl rfl (by omega) (by omega) (by omega) rfl rfl ?_
  | refine L.slHi rfl rfl (by omega) rfl rfl ?_
  | refine L.slAll rfl rfl rfl ?_
  | refine L.indexW rfl rfl (by omega) (by omega) rfl ?_
  | refine L.loadW rfl rfl (by first | omega | (simp only [List.length_set]; omega)) rfl ?_
  | refine L.loadArr rfl rfl (by assumption) rfl ?_
  | refine L.loadL rfl rfl rfl rfl ?_
  | refine L.load rfl rfl rfl rfl ?_
  | refine L.boxA rfl rfl rfl ?_
  | refine L.box1 rfl rfl rfl rfl ?_
  | refine L.alloc rfl rfl ?_
  | refine L.storeW rfl rfl rfl (by first | omega | (simp only [List.length_set]; omega)) ?_
  | refine L.store rfl rfl rfl rfl (by omega) ?_
  | refine L.storeArr rfl rfl rfl (by first | assumption | rfl) (by first | assumption | rfl) ?_
  | refine L.storeA rfl rfl rfl rfl rfl ?_
  | refine L.pick rfl rfl rfl ?_
  | refine L.minmax rfl rfl rfl rfl ?_
  | refine L.eqArr rfl rfl (by first | assumption | rfl) (by first | assumption | rfl) rfl rfl ?_
  | refine L.str rfl rfl (by omega) rfl ?_
  | refine L.strNil rfl rfl ?_
  | refine L.cmpS rfl rfl rfl rfl ?_
  | refine L.make rfl rfl (by omega) (by omega) (by omega) rfl rfl ?_
  | refine L.bs1 rfl rfl rfl ?_
  | refine L.bs0 rfl rfl ?_
  | refine L.met rfl rfl rfl ?_
  | refine L.loadG rfl rfl (by kernel_rfl) rfl ?_))
        refine L.call0 (round_fn w hw) rfl rfl ?_
        repeat (first | refine Sp.seq ?_ | refine C.region ?_ | refine C.regionD (by kernel_rfl) ?_ | refine L.nil ?_ | refine L.nilD (by kernel_rfl) ?_ | (with_reducible refine C.next ?_) | refine Sp.block ?_ | refine Sp.skip ?_ | refine Sp.exit ?_ | (with_reducible refine C.bNormal ?_) | (with_reducible refine C.xSeq ?_) | (with_reducible refine C.xHit ?_) | (with_reducible refine C.xMiss rfl ?_) | (first
  | refine L.move rfl rfl ?_
  | refine L.assign rfl rfl ?_
  | refine L.bv rfl rfl rfl rfl ?_
  | refine L.shiftB rfl rfl rfl rfl ?_
  | refine L.shiftN rfl rfl rfl rfl ?_
  | refine L.bvCmp rfl rfl rfl rfl ?_
  | refine L.cmpN rfl rfl rfl rfl ?_
  | refine L.addN rfl rfl (by omega) rfl ?_
  | refine L.mulN rfl rfl (by omega) rfl ?_
  | refine L.subN rfl rfl (by omega) (by omega) rfl ?_
  | refine L.remN rfl rfl (by omega) rfl ?_
  | refine L.quoN rfl rfl (by omega) (by omega) rfl ?_
  | refine L.quoB rfl rfl (by decide) rfl ?_
  | refine L.not rfl rfl ?_
  | refine L.convB rfl rfl ?_
  | refine L.convN rfl rfl ?_
  | refine L.extract rfl rfl rfl rfl ?_
  | refine L.atA0 rfl rfl (by omega) rfl ?_
  | refine L.atA rfl rfl (by omega) rfl ?_
  | refine L.atA0s rfl rfl (by omega) rfl ?_
  | refine L.atS0 rfl rfl (by omega) rfl ?_
  | refine L.atS rfl rfl (by omega) rfl ?_
  | refine L.atS0s rfl rfl (by omega) rfl ?_
  | refine L.len rfl rfl ?_
  | refine L.lenNil rfl rfl ?_
  | refine L.slLo rfl rfl (by omega) rfl rfl ?_
  | refine L.slBoth rfl rfl rfl (by omega) (by omega) (by omega) rfl rfl ?_
  | refine L.slHi rfl rfl (by omega) rfl rfl ?_
  | refine L.slAll rfl rfl rfl ?_
  | refine L.indexW rfl rfl (by omega) (by omega) rfl ?_
  | refine L.loadW rfl rfl (by first | omega | (simp only [List.length_set]; omega)) rfl ?_
  | refine L.loadArr rfl rfl (by assumption) rfl ?_
  | refine L.loadL rfl rfl rfl rfl ?_
  | refine L.load rfl rfl rfl rfl ?_
  | refine L.boxA rfl rfl rfl ?_
  | refine L.box1 rfl rfl rfl rfl ?_
  | refine L.alloc rfl rfl ?_
  | refine L.storeW rfl rfl rfl (by first | omega | (simp only [List.length_set]; omega)) ?_
  | refine L.store rfl rfl rfl rfl (by omega) ?_
  | refine L.storeArr rfl rfl rfl (by first | assumption | rfl) (by first | assumption | rfl) ?_
  | refine L.storeA rfl rfl rfl rfl rfl ?_
  | refine L.pick rfl rfl rfl ?_
  | refine L.minmax rfl rfl rfl rfl ?_
  | refine L.eqArr rfl rfl (by first | assumption | rfl) (by first | assumption | rfl) rfl rfl ?_
  | refine L.str rfl rfl (by omega) rfl ?_
  | refine L.strNil rfl rfl ?_
  | refine L.cmpS rfl rfl rfl rfl ?_
  | refine L.make rfl rfl (by omega) (by omega) (by omega) rfl rfl ?_
  | refine L.bs1 rfl rfl rfl ?_
  | refine L.bs0 rfl rfl ?_
  | refine L.met rfl rfl rfl ?_
  | refine L.loadG rfl rfl (by kernel_rfl) rfl ?_))
        refine L.call0 (rround_fn w hw) rfl rfl ?_
        refine L.met rfl rfl rfl ?_
        refine L.eqArr (r := true) rfl rfl hr8 hr8 (by simp [arrCmp]) rfl ?_
        repeat (first | refine Sp.seq ?_ | refine C.region ?_ | refine C.regionD (by kernel_rfl) ?_ | refine L.nil ?_ | refine L.nilD (by kernel_rfl) ?_ | (with_reducible refine C.next ?_) | refine Sp.block ?_ | refine Sp.skip ?_ | refine Sp.exit ?_ | (with_reducible refine C.bNormal ?_) | (with_reducible refine C.xSeq ?_) | (with_reducible refine C.xHit ?_) | (with_reducible refine C.xMiss rfl ?_) | (first
  | refine L.move rfl rfl ?_
  | refine L.assign rfl rfl ?_
  | refine L.bv rfl rfl rfl rfl ?_
  | refine L.shiftB rfl rfl rfl rfl ?_
  | refine L.shiftN rfl rfl rfl rfl ?_
  | refine L.bvCmp rfl rfl rfl rfl ?_
  | refine L.cmpN rfl rfl rfl rfl ?_
  | refine L.addN rfl rfl (by omega) rfl ?_
  | refine L.mulN rfl rfl (by omega) rfl ?_
  | refine L.subN rfl rfl (by omega) (by omega) rfl ?_
  | refine L.remN rfl rfl (by omega) rfl ?_
  | refine L.quoN rfl rfl (by omega) (by omega) rfl ?_
  | refine L.quoB rfl rfl (by decide) rfl ?_
  | refine L.not rfl rfl ?_
  | refine L.convB rfl rfl ?_
  | refine L.convN rfl rfl ?_
  | refine L.extract rfl rfl rfl rfl ?_
  | refine L.atA0 rfl rfl (by omega) rfl ?_
  | refine L.atA rfl rfl (by omega) rfl ?_
  | refine L.atA0s rfl rfl (by omega) rfl ?_
  | refine L.atS0 rfl rfl (by omega) rfl ?_
  | refine L.atS rfl rfl (by omega) rfl ?_
  | refine L.atS0s rfl rfl (by omega) rfl ?_
  | refine L.len rfl rfl ?_
  | refine L.lenNil rfl rfl ?_
  | refine L.slLo rfl rfl (by omega) rfl rfl ?_
  | refine L.slBoth rfl rfl rfl (by omega) (by omega) (by omega) rfl rfl ?_
  | refine L.slHi rfl rfl (by omega) rfl rfl ?_
  | refine L.slAll rfl rfl rfl ?_
  | refine L.indexW rfl rfl (by omega) (by omega) rfl ?_
  | refine L.loadW rfl rfl (by first | omega | (simp only [List.length_set]; omega)) rfl ?_
  | refine L.loadArr rfl rfl (by assumption) rfl ?_
  | refine L.loadL rfl rfl rfl rfl ?_
  | refine L.load rfl rfl rfl rfl ?_
  | refine L.boxA rfl rfl rfl ?_
  | refine L.box1 rfl rfl rfl rfl ?_
  | refine L.alloc rfl rfl ?_
  | refine L.storeW rfl rfl rfl (by first | omega | (simp only [List.length_set]; omega)) ?_
  | refine L.store rfl rfl rfl rfl (by omega) ?_
  | refine L.storeArr rfl rfl rfl (by first | assumption | rfl) (by first | assumption | rfl) ?_
  | refine L.storeA rfl rfl rfl rfl rfl ?_
  | refine L.pick rfl rfl rfl ?_
  | refine L.minmax rfl rfl rfl rfl ?_
  | refine L.eqArr rfl rfl (by first | assumption | rfl) (by first | assumption | rfl) rfl rfl ?_
  | refine L.str rfl rfl (by omega) rfl ?_
  | refine L.strNil rfl rfl ?_
  | refine L.cmpS rfl rfl rfl rfl ?_
  | refine L.make rfl rfl (by omega) (by omega) (by omega) rfl rfl ?_
  | refine L.bs1 rfl rfl rfl ?_
  | refine L.bs0 rfl rfl ?_
  | refine L.met rfl rfl rfl ?_
  | refine L.loadG rfl rfl (by kernel_rfl) rfl ?_))
        refine L.call0 (state_fn key nonce c hk hn) rfl rfl ?_
        repeat (first | refine Sp.seq ?_ | refine C.region ?_ | refine C.regionD (by kernel_rfl) ?_ | refine L.nil ?_ | refine L.nilD (by kernel_rfl) ?_ | (with_reducible refine C.next ?_) | refine Sp.block ?_ | refine Sp.skip ?_ | refine Sp.exit ?_ | (with_reducible refine C.bNormal ?_) | (with_reducible refine C.xSeq ?_) | (with_reducible refine C.xHit ?_) | (with_reducible refine C.xMiss rfl ?_) | (first
  | refine L.move rfl rfl ?_
  | refine L.assign rfl rfl ?_
  | refine L.bv rfl rfl rfl rfl ?_
  | refine L.shiftB rfl rfl rfl rfl ?_
  | refine L.shiftN rfl rfl rfl rfl ?_
  | refine L.bvCmp rfl rfl rfl rfl ?_
  | refine L.cmpN rfl rfl rfl rfl ?_
  | refine L.addN rfl rfl (by omega) rfl ?_
  | refine L.mulN rfl rfl (by omega) rfl ?_
  | refine L.subN rfl rfl (by omega) (by omega) rfl ?_
  | refine L.remN rfl rfl (by omega) rfl ?_
  | refine L.quoN rfl rfl (by omega) (by omega) rfl ?_
  | refine L.quoB rfl rfl (by decide) rfl ?_
  | refine L.not rfl rfl ?_
  | refine L.convB rfl rfl ?_
  | refine L.convN rfl rfl ?_
  | refine L.extract rfl rfl rfl rfl ?_
  | refine L.atA0 rfl rfl (by omega) rfl ?_
  | refine L.atA rfl rfl (by omega) rfl ?_
  | refine L.atA0s rfl rfl (by omega) rfl ?_
  | refine L.atS0 rfl rfl (by omega) rfl ?_
  | refine L.atS rfl rfl (by omega) rfl ?_
  | refine L.atS0s rfl rfl (by omega) rfl ?_
  | refine L.len rfl rfl ?_
  | refine L.lenNil rfl rfl ?_
  | refine L.slLo rfl rfl (by omega) rfl rfl ?_
  | refine L.slBoth rfl rfl rfl (by omega) (by omega) (by omega) rfl rfl ?_
  | refine L.slHi rfl rfl (by omega) rfl rfl ?_
  | refine L.slAll rfl rfl rfl ?_
  | refine L.indexW rfl rfl (by omega) (by omega) rfl ?_
  | refine L.loadW rfl rfl (by first | omega | (simp only [List.length_set]; omega)) rfl ?_
  | refine L.loadArr rfl rfl (by assumption) rfl ?_
  | refine L.loadL rfl rfl rfl rfl ?_
  | refine L.load rfl rfl rfl rfl ?_
  | refine L.boxA rfl rfl rfl ?_
  | refine L.box1 rfl rfl rfl rfl ?_
  | refine L.alloc rfl rfl ?_
  | refine L.storeW rfl rfl rfl (by first | omega | (simp only [List.length_set]; omega)) ?_
  | refine L.store rfl rfl rfl rfl (by omega) ?_
  | refine L.storeArr rfl rfl rfl (by first | assumption | rfl) (by first | assumption | rfl) ?_
  | refine L.storeA rfl rfl rfl rfl rfl ?_
  | refine L.pick rfl rfl rfl ?_
  | refine L.minmax rfl rfl rfl rfl ?_
  | refine L.eqArr rfl rfl (by first | assumption | rfl) (by first | assumption | rfl) rfl rfl ?_
  | refine L.str rfl rfl (by omega) rfl ?_
  | refine L.strNil rfl rfl ?_
  | refine L.cmpS rfl rfl rfl rfl ?_
  | refine L.make rfl rfl (by omega) (by omega) (by omega) rfl rfl ?_
  | refine L.bs1 rfl rfl rfl ?_
  | refine L.bs0 rfl rfl ?_
  | refine L.met rfl rfl rfl ?_
  | refine L.loadG rfl rfl (by kernel_rfl) rfl ?_))
        refine L.call0 (rstate_fn key nonce c hk hn) rfl rfl ?_
        refine L.met rfl rfl rfl ?_
        refine L.eqArr (r := true) rfl rfl hs1 hs1 (by simp [arrCmp]) rfl ?_
        repeat (first | refine Sp.seq ?_ | refine C.region ?_ | refine C.regionD (by kernel_rfl) ?_ | refine L.nil ?_ | refine L.nilD (by kernel_rfl) ?_ | (with_reducible refine C.next ?_) | refine Sp.block ?_ | refine Sp.skip ?_ | refine Sp.exit ?_ | (with_reducible refine C.bNormal ?_) | (with_reducible refine C.xSeq ?_) | (with_reducible refine C.xHit ?_) | (with_reducible refine C.xMiss rfl ?_) | (first
  | refine L.move rfl rfl ?_
  | refine L.assign rfl rfl ?_
  | refine L.bv rfl rfl rfl rfl ?_
  | refine L.shiftB rfl rfl rfl rfl ?_
  | refine L.shiftN rfl rfl rfl rfl ?_
  | refine L.bvCmp rfl rfl rfl rfl ?_
  | refine L.cmpN rfl rfl rfl rfl ?_
  | refine L.addN rfl rfl (by omega) rfl ?_
  | refine L.mulN rfl rfl (by omega) rfl ?_
  | refine L.subN rfl rfl (by omega) (by omega) rfl ?_
  | refine L.remN rfl rfl (by omega) rfl ?_
  | refine L.quoN rfl rfl (by omega) (by omega) rfl ?_
  | refine L.quoB rfl rfl (by decide) rfl ?_
  | refine L.not rfl rfl ?_
  | refine L.convB rfl rfl ?_
  | refine L.convN rfl rfl ?_
  | refine L.extract rfl rfl rfl rfl ?_
  | refine L.atA0 rfl rfl (by omega) rfl ?_
  | refine L.atA rfl rfl (by omega) rfl ?_
  | refine L.atA0s rfl rfl (by omega) rfl ?_
  | refine L.atS0 rfl rfl (by omega) rfl ?_
  | refine L.atS rfl rfl (by omega) rfl ?_
  | refine L.atS0s rfl rfl (by omega) rfl ?_
  | refine L.len rfl rfl ?_
  | refine L.lenNil rfl rfl ?_
  | refine L.slLo rfl rfl (by omega) rfl rfl ?_
  | refine L.slBoth rfl rfl rfl (by omega) (by omega) (by omega) rfl rfl ?_
  | refine L.slHi rfl rfl (by omega) rfl rfl ?_
  | refine L.slAll rfl rfl rfl ?_
  | refine L.indexW rfl rfl (by omega) (by omega) rfl ?_
  | refine L.loadW rfl rfl (by first | omega | (simp only [List.length_set]; omega)) rfl ?_
  | refine L.loadArr rfl rfl (by assumption) rfl ?_
  | refine L.loadL rfl rfl rfl rfl ?_
  | refine L.load rfl rfl rfl rfl ?_
  | refine L.boxA rfl rfl rfl ?_
  | refine L.box1 rfl rfl rfl rfl ?_
  | refine L.alloc rfl rfl ?_
  | refine L.storeW rfl rfl rfl (by first | omega | (simp only [List.length_set]; omega)) ?_
  | refine L.store rfl rfl rfl rfl (by omega) ?_
  | refine L.storeArr rfl rfl rfl (by first | assumption | rfl) (by first | assumption | rfl) ?_
  | refine L.storeA rfl rfl rfl rfl rfl ?_
  | refine L.pick rfl rfl rfl ?_
  | refine L.minmax rfl rfl rfl rfl ?_
  | refine L.eqArr rfl rfl (by first | assumption | rfl) (by first | assumption | rfl) rfl rfl ?_
  | refine L.str rfl rfl (by omega) rfl ?_
  | refine L.strNil rfl rfl ?_
  | refine L.cmpS rfl rfl rfl rfl ?_
  | refine L.make rfl rfl (by omega) (by omega) (by omega) rfl rfl ?_
  | refine L.bs1 rfl rfl rfl ?_
  | refine L.bs0 rfl rfl ?_
  | refine L.met rfl rfl rfl ?_
  | refine L.loadG rfl rfl (by kernel_rfl) rfl ?_))
        refine L.call0 (block_fn key nonce c hk hn) rfl rfl ?_
        repeat (first | refine Sp.seq ?_ | refine C.region ?_ | refine C.regionD (by kernel_rfl) ?_ | refine L.nil ?_ | refine L.nilD (by kernel_rfl) ?_ | (with_reducible refine C.next ?_) | refine Sp.block ?_ | refine Sp.skip ?_ | refine Sp.exit ?_ | (with_reducible refine C.bNormal ?_) | (with_reducible refine C.xSeq ?_) | (with_reducible refine C.xHit ?_) | (with_reducible refine C.xMiss rfl ?_) | (first
  | refine L.move rfl rfl ?_
  | refine L.assign rfl rfl ?_
  | refine L.bv rfl rfl rfl rfl ?_
  | refine L.shiftB rfl rfl rfl rfl ?_
  | refine L.shiftN rfl rfl rfl rfl ?_
  | refine L.bvCmp rfl rfl rfl rfl ?_
  | refine L.cmpN rfl rfl rfl rfl ?_
  | refine L.addN rfl rfl (by omega) rfl ?_
  | refine L.mulN rfl rfl (by omega) rfl ?_
  | refine L.subN rfl rfl (by omega) (by omega) rfl ?_
  | refine L.remN rfl rfl (by omega) rfl ?_
  | refine L.quoN rfl rfl (by omega) (by omega) rfl ?_
  | refine L.quoB rfl rfl (by decide) rfl ?_
  | refine L.not rfl rfl ?_
  | refine L.convB rfl rfl ?_
  | refine L.convN rfl rfl ?_
  | refine L.extract rfl rfl rfl rfl ?_
  | refine L.atA0 rfl rfl (by omega) rfl ?_
  | refine L.atA rfl rfl (by omega) rfl ?_
  | refine L.atA0s rfl rfl (by omega) rfl ?_
  | refine L.atS0 rfl rfl (by omega) rfl ?_
  | refine L.atS rfl rfl (by omega) rfl ?_
  | refine L.atS0s rfl rfl (by omega) rfl ?_
  | refine L.len rfl rfl ?_
  | refine L.lenNil rfl rfl ?_
  | refine L.slLo rfl rfl (by omega) rfl rfl ?_
  | refine L.slBoth rfl rfl rfl (by omega) (by omega) (by omega) rfl rfl ?_
  | refine L.slHi rfl rfl (by omega) rfl rfl ?_
  | refine L.slAll rfl rfl rfl ?_
  | refine L.indexW rfl rfl (by omega) (by omega) rfl ?_
  | refine L.loadW rfl rfl (by first | omega | (simp only [List.length_set]; omega)) rfl ?_
  | refine L.loadArr rfl rfl (by assumption) rfl ?_
  | refine L.loadL rfl rfl rfl rfl ?_
  | refine L.load rfl rfl rfl rfl ?_
  | refine L.boxA rfl rfl rfl ?_
  | refine L.box1 rfl rfl rfl rfl ?_
  | refine L.alloc rfl rfl ?_
  | refine L.storeW rfl rfl rfl (by first | omega | (simp only [List.length_set]; omega)) ?_
  | refine L.store rfl rfl rfl rfl (by omega) ?_
  | refine L.storeArr rfl rfl rfl (by first | assumption | rfl) (by first | assumption | rfl) ?_
  | refine L.storeA rfl rfl rfl rfl rfl ?_
  | refine L.pick rfl rfl rfl ?_
  | refine L.minmax rfl rfl rfl rfl ?_
  | refine L.eqArr rfl rfl (by first | assumption | rfl) (by first | assumption | rfl) rfl rfl ?_
  | refine L.str rfl rfl (by omega) rfl ?_
  | refine L.strNil rfl rfl ?_
  | refine L.cmpS rfl rfl rfl rfl ?_
  | refine L.make rfl rfl (by omega) (by omega) (by omega) rfl rfl ?_
  | refine L.bs1 rfl rfl rfl ?_
  | refine L.bs0 rfl rfl ?_
  | refine L.met rfl rfl rfl ?_
  | refine L.loadG rfl rfl (by kernel_rfl) rfl ?_))
        refine L.call0 (rblock_fn key nonce c hk hn) rfl rfl ?_
        refine L.met rfl rfl rfl ?_
        refine L.eqArr (r := true) rfl rfl hb1 hb1 (by simp [arrCmp]) rfl ?_
        repeat (first | refine Sp.seq ?_ | refine C.region ?_ | refine C.regionD (by kernel_rfl) ?_ | refine L.nil ?_ | refine L.nilD (by kernel_rfl) ?_ | (with_reducible refine C.next ?_) | refine Sp.block ?_ | refine Sp.skip ?_ | refine Sp.exit ?_ | (with_reducible refine C.bNormal ?_) | (with_reducible refine C.xSeq ?_) | (with_reducible refine C.xHit ?_) | (with_reducible refine C.xMiss rfl ?_) | (first
  | refine L.move rfl rfl ?_
  | refine L.assign rfl rfl ?_
  | refine L.bv rfl rfl rfl rfl ?_
  | refine L.shiftB rfl rfl rfl rfl ?_
  | refine L.shiftN rfl rfl rfl rfl ?_
  | refine L.bvCmp rfl rfl rfl rfl ?_
  | refine L.cmpN rfl rfl rfl rfl ?_
  | refine L.addN rfl rfl (by omega) rfl ?_
  | refine L.mulN rfl rfl (by omega) rfl ?_
  | refine L.subN rfl rfl (by omega) (by omega) rfl ?_
  | refine L.remN rfl rfl (by omega) rfl ?_
  | refine L.quoN rfl rfl (by omega) (by omega) rfl ?_
  | refine L.quoB rfl rfl (by decide) rfl ?_
  | refine L.not rfl rfl ?_
  | refine L.convB rfl rfl ?_
  | refine L.convN rfl rfl ?_
  | refine L.extract rfl rfl rfl rfl ?_
  | refine L.atA0 rfl rfl (by omega) rfl ?_
  | refine L.atA rfl rfl (by omega) rfl ?_
  | refine L.atA0s rfl rfl (by omega) rfl ?_
  | refine L.atS0 rfl rfl (by omega) rfl ?_
  | refine L.atS rfl rfl (by omega) rfl ?_
  | refine L.atS0s rfl rfl (by omega) rfl ?_
  | refine L.len rfl rfl ?_
  | refine L.lenNil rfl rfl ?_
  | refine L.slLo rfl rfl (by omega) rfl rfl ?_
  | refine L.slBoth rfl rfl rfl (by omega) (by omega) (by omega) rfl rfl ?_
  | refine L.slHi rfl rfl (by omega) rfl rfl ?_
  | refine L.slAll rfl rfl rfl ?_
  | refine L.indexW rfl rfl (by omega) (by omega) rfl ?_
  | refine L.loadW rfl rfl (by first | omega | (simp only [List.length_set]; omega)) rfl ?_
  | refine L.loadArr rfl rfl (by assumption) rfl ?_
  | refine L.loadL rfl rfl rfl rfl ?_
  | refine L.load rfl rfl rfl rfl ?_
  | refine L.boxA rfl rfl rfl ?_
  | refine L.box1 rfl rfl rfl rfl ?_
  | refine L.alloc rfl rfl ?_
  | refine L.storeW rfl rfl rfl (by first | omega | (simp only [List.length_set]; omega)) ?_
  | refine L.store rfl rfl rfl rfl (by omega) ?_
  | refine L.storeArr rfl rfl rfl (by first | assumption | rfl) (by first | assumption | rfl) ?_
  | refine L.storeA rfl rfl rfl rfl rfl ?_
  | refine L.pick rfl rfl rfl ?_
  | refine L.minmax rfl rfl rfl rfl ?_
  | refine L.eqArr rfl rfl (by first | assumption | rfl) (by first | assumption | rfl) rfl rfl ?_
  | refine L.str rfl rfl (by omega) rfl ?_
  | refine L.strNil rfl rfl ?_
  | refine L.make rfl rfl (by omega) (by omega) (by omega) rfl rfl ?_
  | refine L.bs1 rfl rfl rfl ?_
  | refine L.bs0 rfl rfl ?_
  | refine L.met rfl rfl rfl ?_
  | refine L.loadG rfl rfl (by kernel_rfl) rfl ?_))
        refine L.cmpS (r := true) rfl rfl (by rw [hyz]; simp [strCmp]) rfl ?_
        repeat (first | refine Sp.seq ?_ | refine C.region ?_ | refine C.regionD (by kernel_rfl) ?_ | refine L.nil ?_ | refine L.nilD (by kernel_rfl) ?_ | (with_reducible refine C.next ?_) | refine Sp.block ?_ | refine Sp.skip ?_ | refine Sp.exit ?_ | (with_reducible refine C.bNormal ?_) | (with_reducible refine C.xSeq ?_) | (with_reducible refine C.xHit ?_) | (with_reducible refine C.xMiss rfl ?_) | (first
  | refine L.move rfl rfl ?_
  | refine L.assign rfl rfl ?_
  | refine L.bv rfl rfl rfl rfl ?_
  | refine L.shiftB rfl rfl rfl rfl ?_
  | refine L.shiftN rfl rfl rfl rfl ?_
  | refine L.bvCmp rfl rfl rfl rfl ?_
  | refine L.cmpN rfl rfl rfl rfl ?_
  | refine L.addN rfl rfl (by omega) rfl ?_
  | refine L.mulN rfl rfl (by omega) rfl ?_
  | refine L.subN rfl rfl (by omega) (by omega) rfl ?_
  | refine L.remN rfl rfl (by omega) rfl ?_
  | refine L.quoN rfl rfl (by omega) (by omega) rfl ?_
  | refine L.quoB rfl rfl (by decide) rfl ?_
  | refine L.not rfl rfl ?_
  | refine L.convB rfl rfl ?_
  | refine L.convN rfl rfl ?_
  | refine L.extract rfl rfl rfl rfl ?_
  | refine L.atA0 rfl rfl (by omega) rfl ?_
  | refine L.atA rfl rfl (by omega) rfl ?_
  | refine L.atA0s rfl rfl (by omega) rfl ?_
  | refine L.atS0 rfl rfl (by omega) rfl ?_
  | refine L.atS rfl rfl (by omega) rfl ?_
  | refine L.atS0s rfl rfl (by omega) rfl ?_
  | refine L.len rfl rfl ?_
  | refine L.lenNil rfl rfl ?_
  | refine L.slLo rfl rfl (by omega) rfl rfl ?_
  | refine L.slBoth rfl rfl rfl (by omega) (by omega) (by omega) rfl rfl ?_
  | refine L.slHi rfl rfl (by omega) rfl rfl ?_
  | refine L.slAll rfl rfl rfl ?_
  | refine L.indexW rfl rfl (by omega) (by omega) rfl ?_
  | refine L.loadW rfl rfl (by first | omega | (simp only [List.length_set]; omega)) rfl ?_
  | refine L.loadArr rfl rfl (by assumption) rfl ?_
  | refine L.loadL rfl rfl rfl rfl ?_
  | refine L.load rfl rfl rfl rfl ?_
  | refine L.boxA rfl rfl rfl ?_
  | refine L.box1 rfl rfl rfl rfl ?_
  | refine L.alloc rfl rfl ?_
  | refine L.storeW rfl rfl rfl (by first | omega | (simp only [List.length_set]; omega)) ?_
  | refine L.store rfl rfl rfl rfl (by omega) ?_
  | refine L.storeArr rfl rfl rfl (by first | assumption | rfl) (by first | assumption | rfl) ?_
  | refine L.storeA rfl rfl rfl rfl rfl ?_
  | refine L.pick rfl rfl rfl ?_
  | refine L.minmax rfl rfl rfl rfl ?_
  | refine L.eqArr rfl rfl (by first | assumption | rfl) (by first | assumption | rfl) rfl rfl ?_
  | refine L.str rfl rfl (by omega) rfl ?_
  | refine L.strNil rfl rfl ?_
  | refine L.cmpS rfl rfl rfl rfl ?_
  | refine L.make rfl rfl (by omega) (by omega) (by omega) rfl rfl ?_
  | refine L.bs1 rfl rfl rfl ?_
  | refine L.bs0 rfl rfl ?_
  | refine L.met rfl rfl rfl ?_
  | refine L.loadG rfl rfl (by kernel_rfl) rfl ?_))
        exact Sp.ret (retK.t1 [] rfl rfl (Less.nil _) ⟨rfl, rfl⟩)
end Go.Proofs.YtbfakdpnefhgkaaDoor
