/-
  The walk of ChachaNames.
-/
import Derived.Test.YtbfakdpnefhgkaaDoorLv
import Derived.Test.YtbfakdpnefhgkaaDoorXo
import Derived.Test.YtbfakdpnefhgkaaDoorLa
set_option linter.unusedSimpArgs false
set_option linter.unusedVariables false
namespace Go.Proofs.YtbfakdpnefhgkaaDoor
open Sl Mem Bv
def firstState : List (BitVec 32) := [0x61707865#32, 0x3320646e#32, 0x79622d32#32, 0x6b206574#32, 0x03020100#32, 0x07060504#32, 0x0b0a0908#32, 0x0f0e0d0c#32, 0x13121110#32, 0x17161514#32, 0x1b1a1918#32, 0x1f1e1d1c#32, 1#32, 0x09000000#32, 0x4a000000#32, 0#32]
set_option maxRecDepth 100000 in
theorem state_first : state firstKey 1#32 firstNonce = firstState := by decide +kernel
theorem state1 : Fc Tryd.prog 13 0 [.agg (arr .u8 firstKey), .int .u32 (nb 1#32), .agg (arr .u8 firstNonce)] [] (fun v m => v = .agg (arr .u32 firstState) ∧ m = []) := by
  have h := state_fn firstKey firstNonce 1#32 (fkTo_length 32) rfl
  rw [state_first] at h
  exact h
set_option maxHeartbeats 2000000 in
theorem names_fn : Fc Tryd.prog 5 0 [] [] (fun v m => v = .bool true ∧ m = []) := by
  have hk : firstKey.length = 32 := fkTo_length 32
  have hn : firstNonce.length = 12 := rfl
  have hs : firstState.length = 16 := rfl
  have hx := xorTo_length firstKey 4294967295#32 firstNonce (List.replicate 64 0#8) 64 64
  refine Fc.enter (N := 63) (fn := Tryd.f5) (rs := _) Tryd.func5 rfl Tryd.results5 rfl ?_
  repeat (first | refine Sp.seq ?_ | refine C.region ?_ | refine C.regionD (by kernel_rfl) ?_ | refine L.nil ?_ | refine L.nilD (by kernel_rfl) ?_ | (with_reducible refine C.next ?_) | refine Sp.block ?_ | refine Sp.skip ?_ | refine Sp.exit ?_ | (with_reducible refine C.bNormal ?_) | (with_reducible refine C.xSeq ?_) | (with_reducible refine C.xHit ?_) | (with_reducible refine C.xMiss rfl ?_) | (first
  | refine L.move rfl rfl ?_
  | refine L.assign rfl rfl ?_
  | refine L.bv rfl rfl rfl rfl ?_
  | refine L.shiftB rfl rfl rfl rfl ?_
  | refine L.shiftN rfl rfl rfl rfl ?_
  | refine L.bvCmp rfl rfl rfl rfl ?_
  | refine L.cmpN rfl rfl rfl rfl ?_
  | refine L.addN rfl rfl (by omega) rfl ?_
  | refine L.mulN rfl rfl (by omega) rfl ?_
  | refine L.subN rfl rfl (by omega) (by omega) rfl ?_
  | refine L.remN rfl rfl (by omega) rfl ?_
  | refine L.quoN rfl rfl (by omega) (by omega) rfl ?_
  | refine L.quoB rfl rfl (by decide) rfl ?_
  | refine L.not rfl rfl ?_
  | refine L.convB rfl rfl ?_
  | refine L.convN rfl rfl ?_
  | refine L.extract rfl rfl rfl rfl ?_
  | refine L.atA0 rfl rfl (by omega) rfl ?_
  | refine L.atA rfl rfl (by omega) rfl ?_
  | refine L.atA0s rfl rfl (by omega) rfl ?_
  | refine L.atS0 rfl rfl (by omega) rfl ?_
  | refine L.atS rfl rfl (by omega) rfl ?_
  | refine L.len rfl rfl ?_
  | refine L.lenNil rfl rfl ?_
  | refine L.slLo rfl rfl (by omega) rfl rfl ?_
  | refine L.slBoth rfl rfl rfl (by omega) (by omega) (by omega) rfl rfl ?_
  | refine L.slHi rfl rfl (by omega) rfl rfl ?_
  | refine L.slAll rfl rfl rfl ?_
  | refine L.indexW rfl rfl (by omega) (by omega) rfl ?_
  | refine L.loadW rfl rfl (by first | omega | (simp only [List.length_set]; omega)) rfl ?_
  | refine L.loadArr rfl rfl (by assumption) rfl ?_
  | refine L.loadL rfl rfl rfl rfl ?_
  | refine L.load rfl rfl rfl rfl ?_
  | refine L.boxA rfl rfl rfl ?_
  | refine L.box1 rfl rfl rfl rfl ?_
  | refine L.alloc rfl rfl ?_
  | refine L.storeW rfl rfl rfl (by first | omega | (simp only [List.length_set]; omega)) ?_
  | refine L.store rfl rfl rfl rfl (by omega) ?_
  | refine L.storeArr rfl rfl rfl (by first | assumption | rfl) (by first | assumption | rfl) ?_
  | refine L.storeA rfl rfl rfl rfl rfl ?_
  | refine L.pick rfl rfl rfl ?_
  | refine L.minmax rfl rfl rfl rfl ?_
  | refine L.eqArr rfl rfl (by first | assumption | rfl) (by first | assumption | rfl) rfl rfl ?_
  | refine L.str rfl rfl (by omega) rfl ?_
  | refine L.cmpS rfl rfl rfl rfl ?_
  | refine L.make rfl rfl (by omega) (by omega) (by omega) rfl rfl ?_
  | refine L.bs1 rfl rfl rfl ?_
  | refine L.bs0 rfl rfl ?_
  | refine L.met rfl rfl rfl ?_
  | refine L.loadG rfl rfl (by kernel_rfl) rfl ?_))
  refine L.call0 first_fn rfl rfl ?_
  repeat (first | refine Sp.seq ?_ | refine C.region ?_ | refine C.regionD (by kernel_rfl) ?_ | refine L.nil ?_ | refine L.nilD (by kernel_rfl) ?_ | (with_reducible refine C.next ?_) | refine Sp.block ?_ | refine Sp.skip ?_ | refine Sp.exit ?_ | (with_reducible refine C.bNormal ?_) | (with_reducible refine C.xSeq ?_) | (with_reducible refine C.xHit ?_) | (with_reducible refine C.xMiss rfl ?_) | (first
  | refine L.move rfl rfl ?_
  | refine L.assign rfl rfl ?_
  | refine L.bv rfl rfl rfl rfl ?_
  | refine L.shiftB rfl rfl rfl rfl ?_
  | refine L.shiftN rfl rfl rfl rfl ?_
  | refine L.bvCmp rfl rfl rfl rfl ?_
  | refine L.cmpN rfl rfl rfl rfl ?_
  | refine L.addN rfl rfl (by omega) rfl ?_
  | refine L.mulN rfl rfl (by omega) rfl ?_
  | refine L.subN rfl rfl (by omega) (by omega) rfl ?_
  | refine L.remN rfl rfl (by omega) rfl ?_
  | refine L.quoN rfl rfl (by omega) (by omega) rfl ?_
  | refine L.quoB rfl rfl (by decide) rfl ?_
  | refine L.not rfl rfl ?_
  | refine L.convB rfl rfl ?_
  | refine L.convN rfl rfl ?_
  | refine L.extract rfl rfl rfl rfl ?_
  | refine L.atA0 rfl rfl (by omega) rfl ?_
  | refine L.atA rfl rfl (by omega) rfl ?_
  | refine L.atA0s rfl rfl (by omega) rfl ?_
  | refine L.atS0 rfl rfl (by omega) rfl ?_
  | refine L.atS rfl rfl (by omega) rfl ?_
  | refine L.len rfl rfl ?_
  | refine L.lenNil rfl rfl ?_
  | refine L.slLo rfl rfl (by omega) rfl rfl ?_
  | refine L.slBoth rfl rfl rfl (by omega) (by omega) (by omega) rfl rfl ?_
  | refine L.slHi rfl rfl (by omega) rfl rfl ?_
  | refine L.slAll rfl rfl rfl ?_
  | refine L.indexW rfl rfl (by omega) (by omega) rfl ?_
  | refine L.loadW rfl rfl (by first | omega | (simp only [List.length_set]; omega)) rfl ?_
  | refine L.loadArr rfl rfl (by assumption) rfl ?_
  | refine L.loadL rfl rfl rfl rfl ?_
  | refine L.load rfl rfl rfl rfl ?_
  | refine L.boxA rfl rfl rfl ?_
  | refine L.box1 rfl rfl rfl rfl ?_
  | refine L.alloc rfl rfl ?_
  | refine L.storeW rfl rfl rfl (by first | omega | (simp only [List.length_set]; omega)) ?_
  | refine L.store rfl rfl rfl rfl (by omega) ?_
  | refine L.storeArr rfl rfl rfl (by first | assumption | rfl) (by first | assumption | rfl) ?_
  | refine L.storeA rfl rfl rfl rfl rfl ?_
  | refine L.pick rfl rfl rfl ?_
  | refine L.minmax rfl rfl rfl rfl ?_
  | refine L.eqArr rfl rfl (by first | assumption | rfl) (by first | assumption | rfl) rfl rfl ?_
  | refine L.str rfl rfl (by omega) rfl ?_
  | refine L.cmpS rfl rfl rfl rfl ?_
  | refine L.make rfl rfl (by omega) (by omega) (by omega) rfl rfl ?_
  | refine L.bs1 rfl rfl rfl ?_
  | refine L.bs0 rfl rfl ?_
  | refine L.met rfl rfl rfl ?_
  | refine L.loadG rfl rfl (by kernel_rfl) rfl ?_))
  refine L.call0 state1 rfl rfl ?_
  repeat (first | refine Sp.seq ?_ | refine C.region ?_ | refine C.regionD (by kernel_rfl) ?_ | refine L.nil ?_ | refine L.nilD (by kernel_rfl) ?_ | (with_reducible refine C.next ?_) | refine Sp.block ?_ | refine Sp.skip ?_ | refine Sp.exit ?_ | (with_reducible refine C.bNormal ?_) | (with_reducible refine C.xSeq ?_) | (with_reducible refine C.xHit ?_) | (with_reducible refine C.xMiss rfl ?_) | (first
  | refine L.move rfl rfl ?_
  | refine L.assign rfl rfl ?_
  | refine L.bv rfl rfl rfl rfl ?_
  | refine L.shiftB rfl rfl rfl rfl ?_
  | refine L.shiftN rfl rfl rfl rfl ?_
  | refine L.bvCmp rfl rfl rfl rfl ?_
  | refine L.cmpN rfl rfl rfl rfl ?_
  | refine L.addN rfl rfl (by omega) rfl ?_
  | refine L.mulN rfl rfl (by omega) rfl ?_
  | refine L.subN rfl rfl (by omega) (by omega) rfl ?_
  | refine L.remN rfl rfl (by omega) rfl ?_
  | refine L.quoN rfl rfl (by omega) (by omega) rfl ?_
  | refine L.quoB rfl rfl (by decide) rfl ?_
  | refine L.not rfl rfl ?_
  | refine L.convB rfl rfl ?_
  | refine L.convN rfl rfl ?_
  | refine L.extract rfl rfl rfl rfl ?_
  | refine L.atA0 rfl rfl (by omega) rfl ?_
  | refine L.atA rfl rfl (by omega) rfl ?_
  | refine L.atA0s rfl rfl (by omega) rfl ?_
  | refine L.atS0 rfl rfl (by omega) rfl ?_
  | refine L.atS rfl rfl (by omega) rfl ?_
  | refine L.len rfl rfl ?_
  | refine L.lenNil rfl rfl ?_
  | refine L.slLo rfl rfl (by omega) rfl rfl ?_
  | refine L.slBoth rfl rfl rfl (by omega) (by omega) (by omega) rfl rfl ?_
  | refine L.slHi rfl rfl (by omega) rfl rfl ?_
  | refine L.slAll rfl rfl rfl ?_
  | refine L.indexW rfl rfl (by omega) (by omega) rfl ?_
  | refine L.loadW rfl rfl (by first | omega | (simp only [List.length_set]; omega)) rfl ?_
  | refine L.loadArr rfl rfl (by assumption) rfl ?_
  | refine L.loadL rfl rfl rfl rfl ?_
  | refine L.load rfl rfl rfl rfl ?_
  | refine L.boxA rfl rfl rfl ?_
  | refine L.box1 rfl rfl rfl rfl ?_
  | refine L.alloc rfl rfl ?_
  | refine L.storeW rfl rfl rfl (by first | omega | (simp only [List.length_set]; omega)) ?_
  | refine L.store rfl rfl rfl rfl (by omega) ?_
  | refine L.storeArr rfl rfl rfl (by first | assumption | rfl) (by first | assumption | rfl) ?_
  | refine L.storeA rfl rfl rfl rfl rfl ?_
  | refine L.pick rfl rfl rfl ?_
  | refine L.minmax rfl rfl rfl rfl ?_
  | refine L.eqArr rfl rfl (by first | assumption | rfl) (by first | assumption | rfl) rfl rfl ?_
  | refine L.str rfl rfl (by omega) rfl ?_
  | refine L.cmpS rfl rfl rfl rfl ?_
  | refine L.make rfl rfl (by omega) (by omega) (by omega) rfl rfl ?_
  | refine L.bs1 rfl rfl rfl ?_
  | refine L.bs0 rfl rfl ?_
  | refine L.met rfl rfl rfl ?_
  | refine L.loadG rfl rfl (by kernel_rfl) rfl ?_))
  refine L.callRo [(3, 0)] [⟨8, .u8, List.replicate 65 0#8⟩] (xor_long firstKey firstNonce (List.replicate 65 0#8) 4294967295#32 65 65 hk hn (by decide) (by decide) (by unfold tooLong; decide)) rfl rfl (by simp only [List.map_cons, List.map_nil, rn_arr]; rfl) ⟨⟨List.replicate 65 0#8, false, true, rfl, rfl, by decide, by decide⟩, trivial⟩ rfl ?_
  repeat (first | refine Sp.seq ?_ | refine C.region ?_ | refine C.regionD (by kernel_rfl) ?_ | refine L.nil ?_ | refine L.nilD (by kernel_rfl) ?_ | (with_reducible refine C.next ?_) | refine Sp.block ?_ | refine Sp.skip ?_ | refine Sp.exit ?_ | (with_reducible refine C.bNormal ?_) | (with_reducible refine C.xSeq ?_) | (with_reducible refine C.xHit ?_) | (with_reducible refine C.xMiss rfl ?_) | (first
  | refine L.move rfl rfl ?_
  | refine L.assign rfl rfl ?_
  | refine L.bv rfl rfl rfl rfl ?_
  | refine L.shiftB rfl rfl rfl rfl ?_
  | refine L.shiftN rfl rfl rfl rfl ?_
  | refine L.bvCmp rfl rfl rfl rfl ?_
  | refine L.cmpN rfl rfl rfl rfl ?_
  | refine L.addN rfl rfl (by omega) rfl ?_
  | refine L.mulN rfl rfl (by omega) rfl ?_
  | refine L.subN rfl rfl (by omega) (by omega) rfl ?_
  | refine L.remN rfl rfl (by omega) rfl ?_
  | refine L.quoN rfl rfl (by omega) (by omega) rfl ?_
  | refine L.quoB rfl rfl (by decide) rfl ?_
  | refine L.not rfl rfl ?_
  | refine L.convB rfl rfl ?_
  | refine L.convN rfl rfl ?_
  | refine L.extract rfl rfl rfl rfl ?_
  | refine L.atA0 rfl rfl (by omega) rfl ?_
  | refine L.atA rfl rfl (by omega) rfl ?_
  | refine L.atA0s rfl rfl (by omega) rfl ?_
  | refine L.atS0 rfl rfl (by omega) rfl ?_
  | refine L.atS rfl rfl (by omega) rfl ?_
  | refine L.len rfl rfl ?_
  | refine L.lenNil rfl rfl ?_
  | refine L.slLo rfl rfl (by omega) rfl rfl ?_
  | refine L.slBoth rfl rfl rfl (by omega) (by omega) (by omega) rfl rfl ?_
  | refine L.slHi rfl rfl (by omega) rfl rfl ?_
  | refine L.slAll rfl rfl rfl ?_
  | refine L.indexW rfl rfl (by omega) (by omega) rfl ?_
  | refine L.loadW rfl rfl (by first | omega | (simp only [List.length_set]; omega)) rfl ?_
  | refine L.loadArr rfl rfl (by assumption) rfl ?_
  | refine L.loadL rfl rfl rfl rfl ?_
  | refine L.load rfl rfl rfl rfl ?_
  | refine L.boxA rfl rfl rfl ?_
  | refine L.box1 rfl rfl rfl rfl ?_
  | refine L.alloc rfl rfl ?_
  | refine L.storeW rfl rfl rfl (by first | omega | (simp only [List.length_set]; omega)) ?_
  | refine L.store rfl rfl rfl rfl (by omega) ?_
  | refine L.storeArr rfl rfl rfl (by first | assumption | rfl) (by first | assumption | rfl) ?_
  | refine L.storeA rfl rfl rfl rfl rfl ?_
  | refine L.pick rfl rfl rfl ?_
  | refine L.minmax rfl rfl rfl rfl ?_
  | refine L.eqArr rfl rfl (by first | assumption | rfl) (by first | assumption | rfl) rfl rfl ?_
  | refine L.str rfl rfl (by omega) rfl ?_
  | refine L.cmpS rfl rfl rfl rfl ?_
  | refine L.make rfl rfl (by omega) (by omega) (by omega) rfl rfl ?_
  | refine L.bs1 rfl rfl rfl ?_
  | refine L.bs0 rfl rfl ?_
  | refine L.met rfl rfl rfl ?_
  | refine L.loadG rfl rfl (by kernel_rfl) rfl ?_))
  refine L.callNew [(4, 0)] [⟨8, .u8, List.replicate 64 0#8⟩] (V' := .tuple #[.slice (some ⟨5, 0, none⟩) 64 64, .int .i64 ((0 : Nat) : Int)]) (xor_fn firstKey firstNonce (List.replicate 64 0#8) 4294967295#32 64 64 hk hn (by decide) (by decide) (by unfold tooLong; decide)) rfl rfl (by simp only [List.map_cons, List.map_nil, rn_arr]; rfl) ⟨⟨List.replicate 64 0#8, false, true, rfl, rfl, by decide, by decide⟩, trivial⟩ rfl rfl rfl (by kernel_rfl) (N3_two (fun h => by cases h) trivial) rfl rfl ?_
  repeat (first | refine Sp.seq ?_ | refine C.region ?_ | refine C.regionD (by kernel_rfl) ?_ | refine L.nil ?_ | refine L.nilD (by kernel_rfl) ?_ | (with_reducible refine C.next ?_) | refine Sp.block ?_ | refine Sp.skip ?_ | refine Sp.exit ?_ | (with_reducible refine C.bNormal ?_) | (with_reducible refine C.xSeq ?_) | (with_reducible refine C.xHit ?_) | (with_reducible refine C.xMiss rfl ?_) | (first
  | refine L.move rfl rfl ?_
  | refine L.assign rfl rfl ?_
  | refine L.bv rfl rfl rfl rfl ?_
  | refine L.shiftB rfl rfl rfl rfl ?_
  | refine L.shiftN rfl rfl rfl rfl ?_
  | refine L.bvCmp rfl rfl rfl rfl ?_
  | refine L.cmpN rfl rfl rfl rfl ?_
  | refine L.addN rfl rfl (by omega) rfl ?_
  | refine L.mulN rfl rfl (by omega) rfl ?_
  | refine L.subN rfl rfl (by omega) (by omega) rfl ?_
  | refine L.remN rfl rfl (by omega) rfl ?_
  | refine L.quoN rfl rfl (by omega) (by omega) rfl ?_
  | refine L.quoB rfl rfl (by decide) rfl ?_
  | refine L.not rfl rfl ?_
  | refine L.convB rfl rfl ?_
  | refine L.convN rfl rfl ?_
  | refine L.extract rfl rfl rfl rfl ?_
  | refine L.atA0 rfl rfl (by omega) rfl ?_
  | refine L.atA rfl rfl (by omega) rfl ?_
  | refine L.atA0s rfl rfl (by omega) rfl ?_
  | refine L.atS0 rfl rfl (by omega) rfl ?_
  | refine L.atS rfl rfl (by omega) rfl ?_
  | refine L.len rfl rfl ?_
  | refine L.lenNil rfl rfl ?_
  | refine L.slLo rfl rfl (by omega) rfl rfl ?_
  | refine L.slBoth rfl rfl rfl (by omega) (by omega) (by omega) rfl rfl ?_
  | refine L.slHi rfl rfl (by omega) rfl rfl ?_
  | refine L.slAll rfl rfl rfl ?_
  | refine L.indexW rfl rfl (by omega) (by omega) rfl ?_
  | refine L.loadW rfl rfl (by first | omega | (simp only [List.length_set]; omega)) rfl ?_
  | refine L.loadArr rfl rfl (by assumption) rfl ?_
  | refine L.loadL rfl rfl rfl rfl ?_
  | refine L.load rfl rfl rfl rfl ?_
  | refine L.boxA rfl rfl rfl ?_
  | refine L.box1 rfl rfl rfl rfl ?_
  | refine L.alloc rfl rfl ?_
  | refine L.storeW rfl rfl rfl (by first | omega | (simp only [List.length_set]; omega)) ?_
  | refine L.store rfl rfl rfl rfl (by omega) ?_
  | refine L.storeArr rfl rfl rfl (by first | assumption | rfl) (by first | assumption | rfl) ?_
  | refine L.storeA rfl rfl rfl rfl rfl ?_
  | refine L.pick rfl rfl rfl ?_
  | refine L.minmax rfl rfl rfl rfl ?_
  | refine L.eqArr rfl rfl (by first | assumption | rfl) (by first | assumption | rfl) rfl rfl ?_
  | refine L.str rfl rfl (by omega) rfl ?_
  | refine L.cmpS rfl rfl rfl rfl ?_
  | refine L.make rfl rfl (by omega) (by omega) (by omega) rfl rfl ?_
  | refine L.bs1 rfl rfl rfl ?_
  | refine L.bs0 rfl rfl ?_
  | refine L.met rfl rfl rfl ?_
  | refine L.loadG rfl rfl (by kernel_rfl) rfl ?_))
  refine L.call0 lives_fn rfl rfl ?_
  repeat (first | refine Sp.seq ?_ | refine C.region ?_ | refine C.regionD (by kernel_rfl) ?_ | refine L.nil ?_ | refine L.nilD (by kernel_rfl) ?_ | (with_reducible refine C.next ?_) | refine Sp.block ?_ | refine Sp.skip ?_ | refine Sp.exit ?_ | (with_reducible refine C.bNormal ?_) | (with_reducible refine C.xSeq ?_) | (with_reducible refine C.xHit ?_) | (with_reducible refine C.xMiss rfl ?_) | refine L.bvCmp (c := true) rfl rfl (by decide +kernel) rfl ?_ | refine L.cmpN (c := true) rfl rfl (by decide +kernel) rfl ?_ | (first
  | refine L.move rfl rfl ?_
  | refine L.assign rfl rfl ?_
  | refine L.bv rfl rfl rfl rfl ?_
  | refine L.shiftB rfl rfl rfl rfl ?_
  | refine L.shiftN rfl rfl rfl rfl ?_
  | refine L.bvCmp rfl rfl rfl rfl ?_
  | refine L.cmpN rfl rfl rfl rfl ?_
  | refine L.addN rfl rfl (by omega) rfl ?_
  | refine L.mulN rfl rfl (by omega) rfl ?_
  | refine L.subN rfl rfl (by omega) (by omega) rfl ?_
  | refine L.remN rfl rfl (by omega) rfl ?_
  | refine L.quoN rfl rfl (by omega) (by omega) rfl ?_
  | refine L.quoB rfl rfl (by decide) rfl ?_
  | refine L.not rfl rfl ?_
  | refine L.convB rfl rfl ?_
  | refine L.convN rfl rfl ?_
  | refine L.extract rfl rfl rfl rfl ?_
  | refine L.atA0 rfl rfl (by omega) rfl ?_
  | refine L.atA rfl rfl (by omega) rfl ?_
  | refine L.atA0s rfl rfl (by omega) rfl ?_
  | refine L.atS0 rfl rfl (by omega) rfl ?_
  | refine L.atS rfl rfl (by omega) rfl ?_
  | refine L.len rfl rfl ?_
  | refine L.lenNil rfl rfl ?_
  | refine L.slLo rfl rfl (by omega) rfl rfl ?_
  | refine L.slBoth rfl rfl rfl (by omega) (by omega) (by omega) rfl rfl ?_
  | refine L.slHi rfl rfl (by omega) rfl rfl ?_
  | refine L.slAll rfl rfl rfl ?_
  | refine L.indexW rfl rfl (by omega) (by omega) rfl ?_
  | refine L.loadW rfl rfl (by first | omega | (simp only [List.length_set]; omega)) rfl ?_
  | refine L.loadArr rfl rfl (by assumption) rfl ?_
  | refine L.loadL rfl rfl rfl rfl ?_
  | refine L.load rfl rfl rfl rfl ?_
  | refine L.boxA rfl rfl rfl ?_
  | refine L.box1 rfl rfl rfl rfl ?_
  | refine L.alloc rfl rfl ?_
  | refine L.storeW rfl rfl rfl (by first | omega | (simp only [List.length_set]; omega)) ?_
  | refine L.store rfl rfl rfl rfl (by omega) ?_
  | refine L.storeArr rfl rfl rfl (by first | assumption | rfl) (by first | assumption | rfl) ?_
  | refine L.storeA rfl rfl rfl rfl rfl ?_
  | refine L.pick rfl rfl rfl ?_
  | refine L.minmax rfl rfl rfl rfl ?_
  | refine L.eqArr rfl rfl (by first | assumption | rfl) (by first | assumption | rfl) rfl rfl ?_
  | refine L.str rfl rfl (by omega) rfl ?_
  | refine L.cmpS rfl rfl rfl rfl ?_
  | refine L.make rfl rfl (by omega) (by omega) (by omega) rfl rfl ?_
  | refine L.bs1 rfl rfl rfl ?_
  | refine L.bs0 rfl rfl ?_
  | refine L.met rfl rfl rfl ?_
  | refine L.loadG rfl rfl (by kernel_rfl) rfl ?_))
  exact Sp.ret (retK.t1 [] rfl rfl (Less.nil _) ⟨rfl, rfl⟩)
theorem names_any (W : World) (hcol : ColsAt W) : Calls Tryd.prog 5 #[] W fun e W' => e = .returned (.bool true) ∧ Go.RowKit.Below W.heap.size W W' :=
  Fc.calls names_fn W (tab_of_cols hcol) (fun v m h => h.1) (fun E u h => h)
end Go.Proofs.YtbfakdpnefhgkaaDoor
