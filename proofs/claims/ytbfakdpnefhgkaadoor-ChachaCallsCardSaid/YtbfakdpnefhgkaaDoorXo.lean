/-
  Chacha's Xor by contract.
-/
import Derived.Test.YtbfakdpnefhgkaaDoorBl
import Derived.Test.YtbfakdpnefhgkaaDoorPx
set_option linter.unusedSimpArgs false
set_option linter.unusedVariables false
namespace Go.Proofs.YtbfakdpnefhgkaaDoor
open Sl Mem Bv
theorem xor_long (key nonce b : List (BitVec 8)) (c : BitVec 32) (n cp : Nat) (hk : key.length = 32) (hn : nonce.length = 12) (hb : n ≤ b.length) (hc : n < 1099511627776) (hL : tooLong n c) : Fc Tryd.prog 16 1 [.agg (arr .u8 key), .int .u32 (nb c), .agg (arr .u8 nonce), .slice (some ⟨0, 0, none⟩) n cp] (roM 0 [⟨8, .u8, b⟩]) (fun v m => v = .tuple #[.slice none 0 0, .int .i64 ((3 : Nat) : Int)] ∧ m = []) := by
  refine Fc.enter (N := 64) (fn := Tryd.f16) (rs := _) Tryd.func16 rfl Tryd.results16 rfl ?_
  repeat (first | refine Sp.seq ?_ | refine C.region ?_ | refine C.regionD (by kernel_rfl) ?_ | refine L.nil ?_ | refine L.nilD (by kernel_rfl) ?_ | (with_reducible refine C.next ?_) | refine Sp.block ?_ | refine Sp.skip ?_ | refine Sp.exit ?_ | (with_reducible refine C.bNormal ?_) | (with_reducible refine C.xSeq ?_) | (with_reducible refine C.xHit ?_) | (with_reducible refine C.xMiss rfl ?_) | (first
  | refine L.move rfl rfl ?_
  | refine L.assign rfl rfl ?_
  | refine L.bv rfl rfl rfl rfl ?_
  | refine L.shiftB rfl rfl rfl rfl ?_
  | refine L.shiftN rfl rfl rfl rfl ?_
  | refine L.bvCmp rfl rfl rfl rfl ?_
  | refine L.cmpN rfl rfl rfl rfl ?_
  | refine L.addN rfl rfl (by omega) rfl ?_
  | refine L.mulN rfl rfl (by omega) rfl ?_
  | refine L.subN rfl rfl (by omega) (by omega) rfl ?_
  | refine L.remN rfl rfl (by omega) rfl ?_
  | refine L.quoN rfl rfl (by omega) (by omega) rfl ?_
  | refine L.quoB rfl rfl (by decide) rfl ?_
  | refine L.not rfl rfl ?_
  | refine L.convB rfl rfl ?_
  | refine L.convN rfl rfl ?_
  | refine L.extract rfl rfl rfl rfl ?_
  | refine L.atA0 rfl rfl (by omega) rfl ?_
  | refine L.atA rfl rfl (by omega) rfl ?_
  | refine L.atA0s rfl rfl (by omega) rfl ?_
  | refine L.atS0 rfl rfl (by omega) rfl ?_
  | refine L.atS rfl rfl (by omega) rfl ?_
  | refine L.atS0s rfl rfl (by omega) rfl ?_
  | refine L.len rfl rfl ?_
  | refine L.lenNil rfl rfl ?_
  | refine L.slLo rfl rfl (by omega) rfl rfl ?_
  | refine L.slBoth rfl rfl rfl (by omega) (by omega) (by omega) rfl rfl ?_
  | refine L.slHi rfl rfl (by omega) rfl rfl ?_
  | refine L.slAll rfl rfl rfl ?_
  | refine L.indexW rfl rfl (by omega) (by omega) rfl ?_
  | refine L.loadW rfl rfl (by first | omega | (simp only [List.length_set]; omega)) rfl ?_
  | refine L.loadArr rfl rfl (by assumption) rfl ?_
  | refine L.loadL rfl rfl rfl rfl ?_
  | refine L.load rfl rfl rfl rfl ?_
  | refine L.boxA rfl rfl rfl ?_
  | refine L.box1 rfl rfl rfl rfl ?_
  | refine L.alloc rfl rfl ?_
  | refine L.storeW rfl rfl rfl (by first | omega | (simp only [List.length_set]; omega)) ?_
  | refine L.store rfl rfl rfl rfl (by omega) ?_
  | refine L.storeArr rfl rfl rfl (by first | assumption | rfl) (by first | assumption | rfl) ?_
  | refine L.storeA rfl rfl rfl rfl rfl ?_
  | refine L.pick rfl rfl rfl ?_
  | refine L.minmax rfl rfl rfl rfl ?_
  | refine L.eqArr rfl rfl (by first | assumption | rfl) (by first | assumption | rfl) rfl rfl ?_
  | refine L.str rfl rfl (by omega) rfl ?_
  | refine L.strNil rfl rfl ?_
  | refine L.cmpS rfl rfl rfl rfl ?_
  | refine L.make rfl rfl (by omega) (by omega) (by omega) rfl rfl ?_
  | refine L.bs1 rfl rfl rfl ?_
  | refine L.bs0 rfl rfl ?_
  | refine L.met rfl rfl rfl ?_
  | refine L.loadG rfl rfl (by kernel_rfl) rfl ?_))
  refine C.condT rfl (decide_eq_true ((tooLong_iff n c (by omega)).2 hL)) ?_
  repeat (first | refine Sp.seq ?_ | refine C.region ?_ | refine C.regionD (by kernel_rfl) ?_ | refine L.nil ?_ | refine L.nilD (by kernel_rfl) ?_ | (with_reducible refine C.next ?_) | refine Sp.block ?_ | refine Sp.skip ?_ | refine Sp.exit ?_ | (with_reducible refine C.bNormal ?_) | (with_reducible refine C.xSeq ?_) | (with_reducible refine C.xHit ?_) | (with_reducible refine C.xMiss rfl ?_) | (first
  | refine L.move rfl rfl ?_
  | refine L.assign rfl rfl ?_
  | refine L.bv rfl rfl rfl rfl ?_
  | refine L.shiftB rfl rfl rfl rfl ?_
  | refine L.shiftN rfl rfl rfl rfl ?_
  | refine L.bvCmp rfl rfl rfl rfl ?_
  | refine L.cmpN rfl rfl rfl rfl ?_
  | refine L.addN rfl rfl (by omega) rfl ?_
  | refine L.mulN rfl rfl (by omega) rfl ?_
  | refine L.subN rfl rfl (by omega) (by omega) rfl ?_
  | refine L.remN rfl rfl (by omega) rfl ?_
  | refine L.quoN rfl rfl (by omega) (by omega) rfl ?_
  | refine L.quoB rfl rfl (by decide) rfl ?_
  | refine L.not rfl rfl ?_
  | refine L.convB rfl rfl ?_
  | refine L.convN rfl rfl ?_
  | refine L.extract rfl rfl rfl rfl ?_
  | refine L.atA0 rfl rfl (by omega) rfl ?_
  | refine L.atA rfl rfl (by omega) rfl ?_
  | refine L.atA0s rfl rfl (by omega) rfl ?_
  | refine L.atS0 rfl rfl (by omega) rfl ?_
  | refine L.atS rfl rfl (by omega) rfl ?_
  | refine L.atS0s rfl rfl (by omega) rfl ?_
  | refine L.len rfl rfl ?_
  | refine L.lenNil rfl rfl ?_
  | refine L.slLo rfl rfl (by omega) rfl rfl ?_
  | refine L.slBoth rfl rfl rfl (by omega) (by omega) (by omega) rfl rfl ?_
  | refine L.slHi rfl rfl (by omega) rfl rfl ?_
  | refine L.slAll rfl rfl rfl ?_
  | refine L.indexW rfl rfl (by omega) (by omega) rfl ?_
  | refine L.loadW rfl rfl (by first | omega | (simp only [List.length_set]; omega)) rfl ?_
  | refine L.loadArr rfl rfl (by assumption) rfl ?_
  | refine L.loadL rfl rfl rfl rfl ?_
  | refine L.load rfl rfl rfl rfl ?_
  | refine L.boxA rfl rfl rfl ?_
  | refine L.box1 rfl rfl rfl rfl ?_
  | refine L.alloc rfl rfl ?_
  | refine L.storeW rfl rfl rfl (by first | omega | (simp only [List.length_set]; omega)) ?_
  | refine L.store rfl rfl rfl rfl (by omega) ?_
  | refine L.storeArr rfl rfl rfl (by first | assumption | rfl) (by first | assumption | rfl) ?_
  | refine L.storeA rfl rfl rfl rfl rfl ?_
  | refine L.pick rfl rfl rfl ?_
  | refine L.minmax rfl rfl rfl rfl ?_
  | refine L.eqArr rfl rfl (by first | assumption | rfl) (by first | assumption | rfl) rfl rfl ?_
  | refine L.str rfl rfl (by omega) rfl ?_
  | refine L.strNil rfl rfl ?_
  | refine L.cmpS rfl rfl rfl rfl ?_
  | refine L.make rfl rfl (by omega) (by omega) (by omega) rfl rfl ?_
  | refine L.bs1 rfl rfl rfl ?_
  | refine L.bs0 rfl rfl ?_
  | refine L.met rfl rfl rfl ?_
  | refine L.loadG rfl rfl (by kernel_rfl) rfl ?_))
  exact Sp.ret (C.rSeq (retK.t2 [] rfl rfl rfl (Less.nil _) ⟨rfl, rfl⟩))
set_option maxHeartbeats 1000000 in
theorem xor_fn (key nonce b : List (BitVec 8)) (c : BitVec 32) (n cp : Nat) (hk : key.length = 32) (hn : nonce.length = 12) (hb : n ≤ b.length) (hc : n < 1099511627776) (hL : ¬ tooLong n c) : Fc Tryd.prog 16 1 [.agg (arr .u8 key), .int .u32 (nb c), .agg (arr .u8 nonce), .slice (some ⟨0, 0, none⟩) n cp] (roM 0 [⟨8, .u8, b⟩])
    (fun v m => v = .tuple #[.slice (some ⟨3, 0, none⟩) n n, .int .i64 ((0 : Nat) : Int)] ∧ m = [(3, some (.cells (arr .u8 (xorTo key c nonce b n n)) false true))]) := by
  refine Fc.enter (N := 64) (fn := Tryd.f16) (rs := _) Tryd.func16 rfl Tryd.results16 rfl ?_
  repeat (first | refine Sp.seq ?_ | refine C.region ?_ | refine C.regionD (by kernel_rfl) ?_ | refine L.nil ?_ | refine L.nilD (by kernel_rfl) ?_ | (with_reducible refine C.next ?_) | refine Sp.block ?_ | refine Sp.skip ?_ | refine Sp.exit ?_ | (with_reducible refine C.bNormal ?_) | (with_reducible refine C.xSeq ?_) | (with_reducible refine C.xHit ?_) | (with_reducible refine C.xMiss rfl ?_) | (first
  | refine L.move rfl rfl ?_
  | refine L.assign rfl rfl ?_
  | refine L.bv rfl rfl rfl rfl ?_
  | refine L.shiftB rfl rfl rfl rfl ?_
  | refine L.shiftN rfl rfl rfl rfl ?_
  | refine L.bvCmp rfl rfl rfl rfl ?_
  | refine L.cmpN rfl rfl rfl rfl ?_
  | refine L.addN rfl rfl (by omega) rfl ?_
  | refine L.mulN rfl rfl (by omega) rfl ?_
  | refine L.subN rfl rfl (by omega) (by omega) rfl ?_
  | refine L.remN rfl rfl (by omega) rfl ?_
  | refine L.quoN rfl rfl (by omega) (by omega) rfl ?_
  | refine L.quoB rfl rfl (by decide) rfl ?_
  | refine L.not rfl rfl ?_
  | refine L.convB rfl rfl ?_
  | refine L.convN rfl rfl ?_
  | refine L.extract rfl rfl rfl rfl ?_
  | refine L.atA0 rfl rfl (by omega) rfl ?_
  | refine L.atA rfl rfl (by omega) rfl ?_
  | refine L.atA0s rfl rfl (by omega) rfl ?_
  | refine L.atS0 rfl rfl (by omega) rfl ?_
  | refine L.atS rfl rfl (by omega) rfl ?_
  | refine L.atS0s rfl rfl (by omega) rfl ?_
  | refine L.len rfl rfl ?_
  | refine L.lenNil rfl rfl ?_
  | refine L.slLo rfl rfl (by omega) rfl rfl ?_
  | refine L.slBoth rfl rfl rfl (by omega) (by omega) (by omega) rfl rfl ?_
  | refine L.slHi rfl rfl (by omega) rfl rfl ?_
  | refine L.slAll rfl rfl rfl ?_
  | refine L.indexW rfl rfl (by omega) (by omega) rfl ?_
  | refine L.loadW rfl rfl (by first | omega | (simp only [List.length_set]; omega)) rfl ?_
  | refine L.loadArr rfl rfl (by assumption) rfl ?_
  | refine L.loadL rfl rfl rfl rfl ?_
  | refine L.load rfl rfl rfl rfl ?_
  | refine L.boxA rfl rfl rfl ?_
  | refine L.box1 rfl rfl rfl rfl ?_
  | refine L.alloc rfl rfl ?_
  | refine L.storeW rfl rfl rfl (by first | omega | (simp only [List.length_set]; omega)) ?_
  | refine L.store rfl rfl rfl rfl (by omega) ?_
  | refine L.storeArr rfl rfl rfl (by first | assumption | rfl) (by first | assumption | rfl) ?_
  | refine L.storeA rfl rfl rfl rfl rfl ?_
  | refine L.pick rfl rfl rfl ?_
  | refine L.minmax rfl rfl rfl rfl ?_
  | refine L.eqArr rfl rfl (by first | assumption | rfl) (by first | assumption | rfl) rfl rfl ?_
  | refine L.str rfl rfl (by omega) rfl ?_
  | refine L.strNil rfl rfl ?_
  | refine L.cmpS rfl rfl rfl rfl ?_
  | refine L.make rfl rfl (by omega) (by omega) (by omega) rfl rfl ?_
  | refine L.bs1 rfl rfl rfl ?_
  | refine L.bs0 rfl rfl ?_
  | refine L.met rfl rfl rfl ?_
  | refine L.loadG rfl rfl (by kernel_rfl) rfl ?_))
  refine C.condF rfl (decide_eq_false (fun h => hL ((tooLong_iff n c (by omega)).1 h))) ?_
  repeat (first | refine Sp.seq ?_ | refine C.region ?_ | refine C.regionD (by kernel_rfl) ?_ | refine L.nil ?_ | refine L.nilD (by kernel_rfl) ?_ | (with_reducible refine C.next ?_) | refine Sp.block ?_ | refine Sp.skip ?_ | refine Sp.exit ?_ | (with_reducible refine C.bNormal ?_) | (with_reducible refine C.xSeq ?_) | (with_reducible refine C.xHit ?_) | (with_reducible refine C.xMiss rfl ?_) | (first
  | refine L.move rfl rfl ?_
  | refine L.assign rfl rfl ?_
  | refine L.bv rfl rfl rfl rfl ?_
  | refine L.shiftB rfl rfl rfl rfl ?_
  | refine L.shiftN rfl rfl rfl rfl ?_
  | refine L.bvCmp rfl rfl rfl rfl ?_
  | refine L.cmpN rfl rfl rfl rfl ?_
  | refine L.addN rfl rfl (by omega) rfl ?_
  | refine L.mulN rfl rfl (by omega) rfl ?_
  | refine L.subN rfl rfl (by omega) (by omega) rfl ?_
  | refine L.remN rfl rfl (by omega) rfl ?_
  | refine L.quoN rfl rfl (by omega) (by omega) rfl ?_
  | refine L.quoB rfl rfl (by decide) rfl ?_
  | refine L.not rfl rfl ?_
  | refine L.convB rfl rfl ?_
  | refine L.convN rfl rfl ?_
  | refine L.extract rfl rfl rfl rfl ?_
  | refine L.atA0 rfl rfl (by omega) rfl ?_
  | refine L.atA rfl rfl (by omega) rfl ?_
  | refine L.atA0s rfl rfl (by omega) rfl ?_
  | refine L.atS0 rfl rfl (by omega) rfl ?_
  | refine L.atS rfl rfl (by omega) rfl ?_
  | refine L.atS0s rfl rfl (by omega) rfl ?_
  | refine L.len rfl rfl ?_
  | refine L.lenNil rfl rfl ?_
  | refine L.slLo rfl rfl (by omega) rfl rfl ?_
  | refine L.slBoth rfl rfl rfl (by omega) (by omega) (by omega) rfl rfl ?_
  | refine L.slHi rfl rfl (by omega) rfl rfl ?_
  | refine L.slAll rfl rfl rfl ?_
  | refine L.indexW rfl rfl (by omega) (by omega) rfl ?_
  | refine L.loadW rfl rfl (by first | omega | (simp only [List.length_set]; omega)) rfl ?_
  | refine L.loadArr rfl rfl (by assumption) rfl ?_
  | refine L.loadL rfl rfl rfl rfl ?_
  | refine L.load rfl rfl rfl rfl ?_
  | refine L.boxA rfl rfl rfl ?_
  | refine L.box1 rfl rfl rfl rfl ?_
  | refine L.alloc rfl rfl ?_
  | refine L.storeW rfl rfl rfl (by first | omega | (simp only [List.length_set]; omega)) ?_
  | refine L.store rfl rfl rfl rfl (by omega) ?_
  | refine L.storeArr rfl rfl rfl (by first | assumption | rfl) (by first | assumption | rfl) ?_
  | refine L.storeA rfl rfl rfl rfl rfl ?_
  | refine L.pick rfl rfl rfl ?_
  | refine L.minmax rfl rfl rfl rfl ?_
  | refine L.eqArr rfl rfl (by first | assumption | rfl) (by first | assumption | rfl) rfl rfl ?_
  | refine L.str rfl rfl (by omega) rfl ?_
  | refine L.strNil rfl rfl ?_
  | refine L.cmpS rfl rfl rfl rfl ?_
  | refine L.make rfl rfl (by omega) (by omega) (by omega) rfl rfl ?_
  | refine L.bs1 rfl rfl rfl ?_
  | refine L.bs0 rfl rfl ?_
  | refine L.met rfl rfl rfl ?_
  | refine L.loadG rfl rfl (by kernel_rfl) rfl ?_))
  refine Sp.loop (fun j : Nat => 64 * j < n + 64) (fun j => ⟨4, [(12, .int .i64 ((64 * j : Nat) : Int)), (1, .int .u32 (nb (c + BitVec.ofNat 32 j))), (3, .slice (some ⟨0, 0, none⟩) n cp), (11, .slice (some ⟨3, 0, none⟩) n n), (4, .pointer (some ⟨1, 0, none⟩)), (6, .pointer (some ⟨2, 0, none⟩))],
    [(0, some (.cells (arr .u8 b) true false)), (1, some (.cells (arr .u8 key) false true)), (2, some (.cells (arr .u8 nonce) false true)), (3, some (.cells (arr .u8 (xorTo key c nonce b n (min (64 * j) n))) false true))], []⟩) (fun j => n + 64 - 64 * j) 0 (by omega) ?_ ?_
  · simp only [Nat.mul_zero, Nat.zero_min, xorTo_zero, cnt_zero]
    (refine weak_mk rfl ?_ ?_
     · repeat (first | exact AllF.nil | refine AllF.pl rfl ?_ | refine AllF.ptr rfl rfl ?_ | refine AllF.sl rfl rfl ?_ | refine AllF.map rfl rfl ?_)
     · repeat (first | exact AllM.nil | refine AllM.arr rfl rfl ?_ | refine AllM.pl (by kernel_rfl) rfl rfl ?_))
  · intro j hj
    have hlx := xorTo_length key c nonce b n
    repeat (first | refine Sp.seq ?_ | refine C.region ?_ | refine C.regionD (by kernel_rfl) ?_ | refine L.nil ?_ | refine L.nilD (by kernel_rfl) ?_ | (with_reducible refine C.next ?_) | refine Sp.block ?_ | refine Sp.skip ?_ | refine Sp.exit ?_ | (with_reducible refine C.bNormal ?_) | (with_reducible refine C.xSeq ?_) | (with_reducible refine C.xHit ?_) | (with_reducible refine C.xMiss rfl ?_) | (first
  | refine L.move rfl rfl ?_
  | refine L.assign rfl rfl ?_
  | refine L.bv rfl rfl rfl rfl ?_
  | refine L.shiftB rfl rfl rfl rfl ?_
  | refine L.shiftN rfl rfl rfl rfl ?_
  | refine L.bvCmp rfl rfl rfl rfl ?_
  | refine L.cmpN rfl rfl rfl rfl ?_
  | refine L.addN rfl rfl (by omega) rfl ?_
  | refine L.mulN rfl rfl (by omega) rfl ?_
  | refine L.subN rfl rfl (by omega) (by omega) rfl ?_
  | refine L.remN rfl rfl (by omega) rfl ?_
  | refine L.quoN rfl rfl (by omega) (by omega) rfl ?_
  | refine L.quoB rfl rfl (by decide) rfl ?_
  | refine L.not rfl rfl ?_
  | refine L.convB rfl rfl ?_
  | refine L.convN rfl rfl ?_
  | refine L.extract rfl rfl rfl rfl ?_
  | refine L.atA0 rfl rfl (by omega) rfl ?_
  | refine L.atA rfl rfl (by omega) rfl ?_
  | refine L.atA0s rfl rfl (by omega) rfl ?_
  | refine L.atS0 rfl rfl (by omega) rfl ?_
  | refine L.atS rfl rfl (by omega) rfl ?_
  | refine L.atS0s rfl rfl (by omega) rfl ?_
  | refine L.len rfl rfl ?_
  | refine L.lenNil rfl rfl ?_
  | refine L.slLo rfl rfl (by omega) rfl rfl ?_
  | refine L.slBoth rfl rfl rfl (by omega) (by omega) (by omega) rfl rfl ?_
  | refine L.slHi rfl rfl (by omega) rfl rfl ?_
  | refine L.slAll rfl rfl rfl ?_
  | refine L.indexW rfl rfl (by omega) (by omega) rfl ?_
  | refine L.loadW rfl rfl (by first | omega | (simp only [List.length_set]; omega)) rfl ?_
  | refine L.loadArr rfl rfl (by assumption) rfl ?_
  | refine L.loadL rfl rfl rfl rfl ?_
  | refine L.load rfl rfl rfl rfl ?_
  | refine L.boxA rfl rfl rfl ?_
  | refine L.box1 rfl rfl rfl rfl ?_
  | refine L.alloc rfl rfl ?_
  | refine L.storeW rfl rfl rfl (by first | omega | (simp only [List.length_set]; omega)) ?_
  | refine L.store rfl rfl rfl rfl (by omega) ?_
  | refine L.storeArr rfl rfl rfl (by first | assumption | rfl) (by first | assumption | rfl) ?_
  | refine L.storeA rfl rfl rfl rfl rfl ?_
  | refine L.pick rfl rfl rfl ?_
  | refine L.minmax rfl rfl rfl rfl ?_
  | refine L.eqArr rfl rfl (by first | assumption | rfl) (by first | assumption | rfl) rfl rfl ?_
  | refine L.str rfl rfl (by omega) rfl ?_
  | refine L.strNil rfl rfl ?_
  | refine L.cmpS rfl rfl rfl rfl ?_
  | refine L.make rfl rfl (by omega) (by omega) (by omega) rfl rfl ?_
  | refine L.bs1 rfl rfl rfl ?_
  | refine L.bs0 rfl rfl ?_
  | refine L.met rfl rfl rfl ?_
  | refine L.loadG rfl rfl (by kernel_rfl) rfl ?_))
    by_cases hlt : 64 * j < n
    · refine C.condT rfl (decide_eq_true hlt) ?_
      have hbl := block_length key (c + BitVec.ofNat 32 j) nonce
      repeat (first | refine Sp.seq ?_ | refine C.region ?_ | refine C.regionD (by kernel_rfl) ?_ | refine L.nil ?_ | refine L.nilD (by kernel_rfl) ?_ | (with_reducible refine C.next ?_) | refine Sp.block ?_ | refine Sp.skip ?_ | refine Sp.exit ?_ | (with_reducible refine C.bNormal ?_) | (with_reducible refine C.xSeq ?_) | (with_reducible refine C.xHit ?_) | (with_reducible refine C.xMiss rfl ?_) | (first
  | refine L.move rfl rfl ?_
  | refine L.assign rfl rfl ?_
  | refine L.bv rfl rfl rfl rfl ?_
  | refine L.shiftB rfl rfl rfl rfl ?_
  | refine L.shiftN rfl rfl rfl rfl ?_
  | refine L.bvCmp rfl rfl rfl rfl ?_
  | refine L.cmpN rfl rfl rfl rfl ?_
  | refine L.addN rfl rfl (by omega) rfl ?_
  | refine L.mulN rfl rfl (by omega) rfl ?_
  | refine L.subN rfl rfl (by omega) (by omega) rfl ?_
  | refine L.remN rfl rfl (by omega) rfl ?_
  | refine L.quoN rfl rfl (by omega) (by omega) rfl ?_
  | refine L.quoB rfl rfl (by decide) rfl ?_
  | refine L.not rfl rfl ?_
  | refine L.convB rfl rfl ?_
  | refine L.convN rfl rfl ?_
  | refine L.extract rfl rfl rfl rfl ?_
  | refine L.atA0 rfl rfl (by omega) rfl ?_
  | refine L.atA rfl rfl (by omega) rfl ?_
  | refine L.atA0s rfl rfl (by omega) rfl ?_
  | refine L.atS0 rfl rfl (by omega) rfl ?_
  | refine L.atS rfl rfl (by omega) rfl ?_
  | refine L.atS0s rfl rfl (by omega) rfl ?_
  | refine L.len rfl rfl ?_
  | refine L.lenNil rfl rfl ?_
  | refine L.slLo rfl rfl (by omega) rfl rfl ?_
  | refine L.slBoth rfl rfl rfl (by omega) (by omega) (by omega) rfl rfl ?_
  | refine L.slHi rfl rfl (by omega) rfl rfl ?_
  | refine L.slAll rfl rfl rfl ?_
  | refine L.indexW rfl rfl (by omega) (by omega) rfl ?_
  | refine L.loadW rfl rfl (by first | omega | (simp only [List.length_set]; omega)) rfl ?_
  | refine L.loadArr rfl rfl (by assumption) rfl ?_
  | refine L.loadL rfl rfl rfl rfl ?_
  | refine L.load rfl rfl rfl rfl ?_
  | refine L.boxA rfl rfl rfl ?_
  | refine L.box1 rfl rfl rfl rfl ?_
  | refine L.alloc rfl rfl ?_
  | refine L.storeW rfl rfl rfl (by first | omega | (simp only [List.length_set]; omega)) ?_
  | refine L.store rfl rfl rfl rfl (by omega) ?_
  | refine L.storeArr rfl rfl rfl (by first | assumption | rfl) (by first | assumption | rfl) ?_
  | refine L.storeA rfl rfl rfl rfl rfl ?_
  | refine L.pick rfl rfl rfl ?_
  | refine L.minmax rfl rfl rfl rfl ?_
  | refine L.eqArr rfl rfl (by first | assumption | rfl) (by first | assumption | rfl) rfl rfl ?_
  | refine L.str rfl rfl (by omega) rfl ?_
  | refine L.strNil rfl rfl ?_
  | refine L.cmpS rfl rfl rfl rfl ?_
  | refine L.make rfl rfl (by omega) (by omega) (by omega) rfl rfl ?_
  | refine L.bs1 rfl rfl rfl ?_
  | refine L.bs0 rfl rfl ?_
  | refine L.met rfl rfl rfl ?_
  | refine L.loadG rfl rfl (by kernel_rfl) rfl ?_))
      refine L.call0 (block_fn key nonce (c + BitVec.ofNat 32 j) hk hn) rfl rfl ?_
      repeat (first | refine Sp.seq ?_ | refine C.region ?_ | refine C.regionD (by kernel_rfl) ?_ | refine L.nil ?_ | refine L.nilD (by kernel_rfl) ?_ | (with_reducible refine C.next ?_) | refine Sp.block ?_ | refine Sp.skip ?_ | refine Sp.exit ?_ | (with_reducible refine C.bNormal ?_) | (with_reducible refine C.xSeq ?_) | (with_reducible refine C.xHit ?_) | (with_reducible refine C.xMiss rfl ?_) | (first
  | refine L.move rfl rfl ?_
  | refine L.assign rfl rfl ?_
  | refine L.bv rfl rfl rfl rfl ?_
  | refine L.shiftB rfl rfl rfl rfl ?_
  | refine L.shiftN rfl rfl rfl rfl ?_
  | refine L.bvCmp rfl rfl rfl rfl ?_
  | refine L.cmpN rfl rfl rfl rfl ?_
  | refine L.addN rfl rfl (by omega) rfl ?_
  | refine L.mulN rfl rfl (by omega) rfl ?_
  | refine L.subN rfl rfl (by omega) (by omega) rfl ?_
  | refine L.remN rfl rfl (by omega) rfl ?_
  | refine L.quoN rfl rfl (by omega) (by omega) rfl ?_
  | refine L.quoB rfl rfl (by decide) rfl ?_
  | refine L.not rfl rfl ?_
  | refine L.convB rfl rfl ?_
  | refine L.convN rfl rfl ?_
  | refine L.extract rfl rfl rfl rfl ?_
  | refine L.atA0 rfl rfl (by omega) rfl ?_
  | refine L.atA rfl rfl (by omega) rfl ?_
  | refine L.atA0s rfl rfl (by omega) rfl ?_
  | refine L.atS0 rfl rfl (by omega) rfl ?_
  | refine L.atS rfl rfl (by omega) rfl ?_
  | refine L.atS0s rfl rfl (by omega) rfl ?_
  | refine L.len rfl rfl ?_
  | refine L.lenNil rfl rfl ?_
  | refine L.slLo rfl rfl (by omega) rfl rfl ?_
  | refine L.slBoth rfl rfl rfl (by omega) (by omega) (by omega) rfl rfl ?_
  | refine L.slHi rfl rfl (by omega) rfl rfl ?_
  | refine L.slAll rfl rfl rfl ?_
  | refine L.indexW rfl rfl (by omega) (by omega) rfl ?_
  | refine L.loadW rfl rfl (by first | omega | (simp only [List.length_set]; omega)) rfl ?_
  | refine L.loadArr rfl rfl (by assumption) rfl ?_
  | refine L.loadL rfl rfl rfl rfl ?_
  | refine L.load rfl rfl rfl rfl ?_
  | refine L.boxA rfl rfl rfl ?_
  | refine L.box1 rfl rfl rfl rfl ?_
  | refine L.alloc rfl rfl ?_
  | refine L.storeW rfl rfl rfl (by first | omega | (simp only [List.length_set]; omega)) ?_
  | refine L.store rfl rfl rfl rfl (by omega) ?_
  | refine L.storeArr rfl rfl rfl (by first | assumption | rfl) (by first | assumption | rfl) ?_
  | refine L.storeA rfl rfl rfl rfl rfl ?_
  | refine L.pick rfl rfl rfl ?_
  | refine L.minmax rfl rfl rfl rfl ?_
  | refine L.eqArr rfl rfl (by first | assumption | rfl) (by first | assumption | rfl) rfl rfl ?_
  | refine L.str rfl rfl (by omega) rfl ?_
  | refine L.strNil rfl rfl ?_
  | refine L.cmpS rfl rfl rfl rfl ?_
  | refine L.make rfl rfl (by omega) (by omega) (by omega) rfl rfl ?_
  | refine L.bs1 rfl rfl rfl ?_
  | refine L.bs0 rfl rfl ?_
  | refine L.met rfl rfl rfl ?_
  | refine L.loadG rfl rfl (by kernel_rfl) rfl ?_))
      refine Sp.loop (fun i : Nat => 64 * j ≤ i ∧ i ≤ min (64 * j + 64) n) (fun i => ⟨5, [(14, .int .i64 (i : Int)), (12, .int .i64 ((64 * j : Nat) : Int)), (1, .int .u32 (nb (c + BitVec.ofNat 32 j))), (3, .slice (some ⟨0, 0, none⟩) n cp), (11, .slice (some ⟨3, 0, none⟩) n n), (4, .pointer (some ⟨1, 0, none⟩)), (6, .pointer (some ⟨2, 0, none⟩)), (13, .pointer (some ⟨4, 0, none⟩))],
        [(0, some (.cells (arr .u8 b) true false)), (1, some (.cells (arr .u8 key) false true)), (2, some (.cells (arr .u8 nonce) false true)), (3, some (.cells (arr .u8 (xorTo key c nonce b n i)) false true)), (4, some (.cells (arr .u8 (block key (c + BitVec.ofNat 32 j) nonce)) false true))], []⟩) (fun i => n - i) (64 * j) (by omega) ?_ ?_
      · rw [show min (64 * j) n = 64 * j by omega]
        (refine weak_mk rfl ?_ ?_
         · repeat (first | exact AllF.nil | refine AllF.pl rfl ?_ | refine AllF.ptr rfl rfl ?_ | refine AllF.sl rfl rfl ?_ | refine AllF.map rfl rfl ?_)
         · repeat (first | exact AllM.nil | refine AllM.arr rfl rfl ?_ | refine AllM.pl (by kernel_rfl) rfl rfl ?_))
      · rintro i ⟨hi1, hi2⟩
        have hli := hlx i
        repeat (first | refine Sp.seq ?_ | refine C.region ?_ | refine C.regionD (by kernel_rfl) ?_ | refine L.nil ?_ | refine L.nilD (by kernel_rfl) ?_ | (with_reducible refine C.next ?_) | refine Sp.block ?_ | refine Sp.skip ?_ | refine Sp.exit ?_ | (with_reducible refine C.bNormal ?_) | (with_reducible refine C.xSeq ?_) | (with_reducible refine C.xHit ?_) | (with_reducible refine C.xMiss rfl ?_) | (first
  | refine L.move rfl rfl ?_
  | refine L.assign rfl rfl ?_
  | refine L.bv rfl rfl rfl rfl ?_
  | refine L.shiftB rfl rfl rfl rfl ?_
  | refine L.shiftN rfl rfl rfl rfl ?_
  | refine L.bvCmp rfl rfl rfl rfl ?_
  | refine L.cmpN rfl rfl rfl rfl ?_
  | refine L.addN rfl rfl (by omega) rfl ?_
  | refine L.mulN rfl rfl (by omega) rfl ?_
  | refine L.subN rfl rfl (by omega) (by omega) rfl ?_
  | refine L.remN rfl rfl (by omega) rfl ?_
  | refine L.quoN rfl rfl (by omega) (by omega) rfl ?_
  | refine L.quoB rfl rfl (by decide) rfl ?_
  | refine L.not rfl rfl ?_
  | refine L.convB rfl rfl ?_
  | refine L.convN rfl rfl ?_
  | refine L.extract rfl rfl rfl rfl ?_
  | refine L.atA0 rfl rfl (by omega) rfl ?_
  | refine L.atA rfl rfl (by omega) rfl ?_
  | refine L.atA0s rfl rfl (by omega) rfl ?_
  | refine L.atS0 rfl rfl (by omega) rfl ?_
  | refine L.atS rfl rfl (by omega) rfl ?_
  | refine L.atS0s rfl rfl (by omega) rfl ?_
  | refine L.len rfl rfl ?_
  | refine L.lenNil rfl rfl ?_
  | refine L.slLo rfl rfl (by omega) rfl rfl ?_
  | refine L.slBoth rfl rfl rfl (by omega) (by omega) (by omega) rfl rfl ?_
  | refine L.slHi rfl rfl (by omega) rfl rfl ?_
  | refine L.slAll rfl rfl rfl ?_
  | refine L.indexW rfl rfl (by omega) (by omega) rfl ?_
  | refine L.loadW rfl rfl (by first | omega | (simp only [List.length_set]; omega)) rfl ?_
  | refine L.loadArr rfl rfl (by assumption) rfl ?_
  | refine L.loadL rfl rfl rfl rfl ?_
  | refine L.load rfl rfl rfl rfl ?_
  | refine L.boxA rfl rfl rfl ?_
  | refine L.box1 rfl rfl rfl rfl ?_
  | refine L.alloc rfl rfl ?_
  | refine L.storeW rfl rfl rfl (by first | omega | (simp only [List.length_set]; omega)) ?_
  | refine L.store rfl rfl rfl rfl (by omega) ?_
  | refine L.storeArr rfl rfl rfl (by first | assumption | rfl) (by first | assumption | rfl) ?_
  | refine L.storeA rfl rfl rfl rfl rfl ?_
  | refine L.pick rfl rfl rfl ?_
  | refine L.minmax rfl rfl rfl rfl ?_
  | refine L.eqArr rfl rfl (by first | assumption | rfl) (by first | assumption | rfl) rfl rfl ?_
  | refine L.str rfl rfl (by omega) rfl ?_
  | refine L.strNil rfl rfl ?_
  | refine L.cmpS rfl rfl rfl rfl ?_
  | refine L.make rfl rfl (by omega) (by omega) (by omega) rfl rfl ?_
  | refine L.bs1 rfl rfl rfl ?_
  | refine L.bs0 rfl rfl ?_
  | refine L.met rfl rfl rfl ?_
  | refine L.loadG rfl rfl (by kernel_rfl) rfl ?_))
        by_cases hlt2 : i < min (64 * j + 64) n
        · refine C.condT rfl (decide_eq_true hlt2) ?_
          repeat (first | refine Sp.seq ?_ | refine C.region ?_ | refine C.regionD (by kernel_rfl) ?_ | refine L.nil ?_ | refine L.nilD (by kernel_rfl) ?_ | (with_reducible refine C.next ?_) | refine Sp.block ?_ | refine Sp.skip ?_ | refine Sp.exit ?_ | (with_reducible refine C.bNormal ?_) | (with_reducible refine C.xSeq ?_) | (with_reducible refine C.xHit ?_) | (with_reducible refine C.xMiss rfl ?_) | (first
  | refine L.move rfl rfl ?_
  | refine L.assign rfl rfl ?_
  | refine L.bv rfl rfl rfl rfl ?_
  | refine L.shiftB rfl rfl rfl rfl ?_
  | refine L.shiftN rfl rfl rfl rfl ?_
  | refine L.bvCmp rfl rfl rfl rfl ?_
  | refine L.cmpN rfl rfl rfl rfl ?_
  | refine L.addN rfl rfl (by omega) rfl ?_
  | refine L.mulN rfl rfl (by omega) rfl ?_
  | refine L.subN rfl rfl (by omega) (by omega) rfl ?_
  | refine L.remN rfl rfl (by omega) rfl ?_
  | refine L.quoN rfl rfl (by omega) (by omega) rfl ?_
  | refine L.quoB rfl rfl (by decide) rfl ?_
  | refine L.not rfl rfl ?_
  | refine L.convB rfl rfl ?_
  | refine L.convN rfl rfl ?_
  | refine L.extract rfl rfl rfl rfl ?_
  | refine L.atA0 rfl rfl (by omega) rfl ?_
  | refine L.atA rfl rfl (by omega) rfl ?_
  | refine L.atA0s rfl rfl (by omega) rfl ?_
  | refine L.atS0 rfl rfl (by omega) rfl ?_
  | refine L.atS rfl rfl (by omega) rfl ?_
  | refine L.atS0s rfl rfl (by omega) rfl ?_
  | refine L.len rfl rfl ?_
  | refine L.lenNil rfl rfl ?_
  | refine L.slLo rfl rfl (by omega) rfl rfl ?_
  | refine L.slBoth rfl rfl rfl (by omega) (by omega) (by omega) rfl rfl ?_
  | refine L.slHi rfl rfl (by omega) rfl rfl ?_
  | refine L.slAll rfl rfl rfl ?_
  | refine L.indexW rfl rfl (by omega) (by omega) rfl ?_
  | refine L.loadW rfl rfl (by first | omega | (simp only [List.length_set]; omega)) rfl ?_
  | refine L.loadArr rfl rfl (by assumption) rfl ?_
  | refine L.loadL rfl rfl rfl rfl ?_
  | refine L.load rfl rfl rfl rfl ?_
  | refine L.boxA rfl rfl rfl ?_
  | refine L.box1 rfl rfl rfl rfl ?_
  | refine L.alloc rfl rfl ?_
  | refine L.storeW rfl rfl rfl (by first | omega | (simp only [List.length_set]; omega)) ?_
  | refine L.store rfl rfl rfl rfl (by omega) ?_
  | refine L.storeArr rfl rfl rfl (by first | assumption | rfl) (by first | assumption | rfl) ?_
  | refine L.storeA rfl rfl rfl rfl rfl ?_
  | refine L.pick rfl rfl rfl ?_
  | refine L.minmax rfl rfl rfl rfl ?_
  | refine L.eqArr rfl rfl (by first | assumption | rfl) (by first | assumption | rfl) rfl rfl ?_
  | refine L.str rfl rfl (by omega) rfl ?_
  | refine L.strNil rfl rfl ?_
  | refine L.cmpS rfl rfl rfl rfl ?_
  | refine L.make rfl rfl (by omega) (by omega) (by omega) rfl rfl ?_
  | refine L.bs1 rfl rfl rfl ?_
  | refine L.bs0 rfl rfl ?_
  | refine L.met rfl rfl rfl ?_
  | refine L.loadG rfl rfl (by kernel_rfl) rfl ?_))
          refine ⟨i + 1, by omega, by omega, ?_⟩
          rw [xorTo_succ _ _ _ _ _ _ (by omega), ← ks_at key c nonce i j (by omega) (by omega)]
          (refine weak_mk rfl ?_ ?_
           · repeat (first | exact AllF.nil | refine AllF.pl rfl ?_ | refine AllF.ptr rfl rfl ?_ | refine AllF.sl rfl rfl ?_ | refine AllF.map rfl rfl ?_)
           · repeat (first | exact AllM.nil | refine AllM.arr rfl rfl ?_ | refine AllM.pl (by kernel_rfl) rfl rfl ?_))
        · refine C.condF rfl (decide_eq_false hlt2) ?_
          repeat (first | refine Sp.seq ?_ | refine C.region ?_ | refine C.regionD (by kernel_rfl) ?_ | refine L.nil ?_ | refine L.nilD (by kernel_rfl) ?_ | (with_reducible refine C.next ?_) | refine Sp.block ?_ | refine Sp.skip ?_ | refine Sp.exit ?_ | (with_reducible refine C.bNormal ?_) | (with_reducible refine C.xSeq ?_) | (with_reducible refine C.xHit ?_) | (with_reducible refine C.xMiss rfl ?_) | (first
  | refine L.move rfl rfl ?_
  | refine L.assign rfl rfl ?_
  | refine L.bv rfl rfl rfl rfl ?_
  | refine L.shiftB rfl rfl rfl rfl ?_
  | refine L.shiftN rfl rfl rfl rfl ?_
  | refine L.bvCmp rfl rfl rfl rfl ?_
  | refine L.cmpN rfl rfl rfl rfl ?_
  | refine L.addN rfl rfl (by omega) rfl ?_
  | refine L.mulN rfl rfl (by omega) rfl ?_
  | refine L.subN rfl rfl (by omega) (by omega) rfl ?_
  | refine L.remN rfl rfl (by omega) rfl ?_
  | refine L.quoN rfl rfl (by omega) (by omega) rfl ?_
  | refine L.quoB rfl rfl (by decide) rfl ?_
  | refine L.not rfl rfl ?_
  | refine L.convB rfl rfl ?_
  | refine L.convN rfl rfl ?_
  | refine L.extract rfl rfl rfl rfl ?_
  | refine L.atA0 rfl rfl (by omega) rfl ?_
  | refine L.atA rfl rfl (by omega) rfl ?_
  | refine L.atA0s rfl rfl (by omega) rfl ?_
  | refine L.atS0 rfl rfl (by omega) rfl ?_
  | refine L.atS rfl rfl (by omega) rfl ?_
  | refine L.atS0s rfl rfl (by omega) rfl ?_
  | refine L.len rfl rfl ?_
  | refine L.lenNil rfl rfl ?_
  | refine L.slLo rfl rfl (by omega) rfl rfl ?_
  | refine L.slBoth rfl rfl rfl (by omega) (by omega) (by omega) rfl rfl ?_
  | refine L.slHi rfl rfl (by omega) rfl rfl ?_
  | refine L.slAll rfl rfl rfl ?_
  | refine L.indexW rfl rfl (by omega) (by omega) rfl ?_
  | refine L.loadW rfl rfl (by first | omega | (simp only [List.length_set]; omega)) rfl ?_
  | refine L.loadArr rfl rfl (by assumption) rfl ?_
  | refine L.loadL rfl rfl rfl rfl ?_
  | refine L.load rfl rfl rfl rfl ?_
  | refine L.boxA rfl rfl rfl ?_
  | refine L.box1 rfl rfl rfl rfl ?_
  | refine L.alloc rfl rfl ?_
  | refine L.storeW rfl rfl rfl (by first | omega | (simp only [List.length_set]; omega)) ?_
  | refine L.store rfl rfl rfl rfl (by omega) ?_
  | refine L.storeArr rfl rfl rfl (by first | assumption | rfl) (by first | assumption | rfl) ?_
  | refine L.storeA rfl rfl rfl rfl rfl ?_
  | refine L.pick rfl rfl rfl ?_
  | refine L.minmax rfl rfl rfl rfl ?_
  | refine L.eqArr rfl rfl (by first | assumption | rfl) (by first | assumption | rfl) rfl rfl ?_
  | refine L.str rfl rfl (by omega) rfl ?_
  | refine L.strNil rfl rfl ?_
  | refine L.cmpS rfl rfl rfl rfl ?_
  | refine L.make rfl rfl (by omega) (by omega) (by omega) rfl rfl ?_
  | refine L.bs1 rfl rfl rfl ?_
  | refine L.bs0 rfl rfl ?_
  | refine L.met rfl rfl rfl ?_
  | refine L.loadG rfl rfl (by kernel_rfl) rfl ?_))
          refine ⟨j + 1, by omega, by omega, ?_⟩
          rw [cnt_succ c j, show min (64 * (j + 1)) n = i by omega]
          (refine weak_mk rfl ?_ ?_
           · repeat (first | exact AllF.nil | refine AllF.pl rfl ?_ | refine AllF.ptr rfl rfl ?_ | refine AllF.sl rfl rfl ?_ | refine AllF.map rfl rfl ?_)
           · repeat (first | exact AllM.nil | refine AllM.arr rfl rfl ?_ | refine AllM.pl (by kernel_rfl) rfl rfl ?_))
    · refine C.condF rfl (decide_eq_false hlt) ?_
      rw [show min (64 * j) n = n by omega]
      repeat (first | refine Sp.seq ?_ | refine C.region ?_ | refine C.regionD (by kernel_rfl) ?_ | refine L.nil ?_ | refine L.nilD (by kernel_rfl) ?_ | (with_reducible refine C.next ?_) | refine Sp.block ?_ | refine Sp.skip ?_ | refine Sp.exit ?_ | (with_reducible refine C.bNormal ?_) | (with_reducible refine C.xSeq ?_) | (with_reducible refine C.xHit ?_) | (with_reducible refine C.xMiss rfl ?_) | (first
  | refine L.move rfl rfl ?_
  | refine L.assign rfl rfl ?_
  | refine L.bv rfl rfl rfl rfl ?_
  | refine L.shiftB rfl rfl rfl rfl ?_
  | refine L.shiftN rfl rfl rfl rfl ?_
  | refine L.bvCmp rfl rfl rfl rfl ?_
  | refine L.cmpN rfl rfl rfl rfl ?_
  | refine L.addN rfl rfl (by omega) rfl ?_
  | refine L.mulN rfl rfl (by omega) rfl ?_
  | refine L.subN rfl rfl (by omega) (by omega) rfl ?_
  | refine L.remN rfl rfl (by omega) rfl ?_
  | refine L.quoN rfl rfl (by omega) (by omega) rfl ?_
  | refine L.quoB rfl rfl (by decide) rfl ?_
  | refine L.not rfl rfl ?_
  | refine L.convB rfl rfl ?_
  | refine L.convN rfl rfl ?_
  | refine L.extract rfl rfl rfl rfl ?_
  | refine L.atA0 rfl rfl (by omega) rfl ?_
  | refine L.atA rfl rfl (by omega) rfl ?_
  | refine L.atA0s rfl rfl (by omega) rfl ?_
  | refine L.atS0 rfl rfl (by omega) rfl ?_
  | refine L.atS rfl rfl (by omega) rfl ?_
  | refine L.atS0s rfl rfl (by omega) rfl ?_
  | refine L.len rfl rfl ?_
  | refine L.lenNil rfl rfl ?_
  | refine L.slLo rfl rfl (by omega) rfl rfl ?_
  | refine L.slBoth rfl rfl rfl (by omega) (by omega) (by omega) rfl rfl ?_
  | refine L.slHi rfl rfl (by omega) rfl rfl ?_
  | refine L.slAll rfl rfl rfl ?_
  | refine L.indexW rfl rfl (by omega) (by omega) rfl ?_
  | refine L.loadW rfl rfl (by first | omega | (simp only [List.length_set]; omega)) rfl ?_
  | refine L.loadArr rfl rfl (by assumption) rfl ?_
  | refine L.loadL rfl rfl rfl rfl ?_
  | refine L.load rfl rfl rfl rfl ?_
  | refine L.boxA rfl rfl rfl ?_
  | refine L.box1 rfl rfl rfl rfl ?_
  | refine L.alloc rfl rfl ?_
  | refine L.storeW rfl rfl rfl (by first | omega | (simp only [List.length_set]; omega)) ?_
  | refine L.store rfl rfl rfl rfl (by omega) ?_
  | refine L.storeArr rfl rfl rfl (by first | assumption | rfl) (by first | assumption | rfl) ?_
  | refine L.storeA rfl rfl rfl rfl rfl ?_
  | refine L.pick rfl rfl rfl ?_
  | refine L.minmax rfl rfl rfl rfl ?_
  | refine L.eqArr rfl rfl (by first | assumption | rfl) (by first | assumption | rfl) rfl rfl ?_
  | refine L.str rfl rfl (by omega) rfl ?_
  | refine L.strNil rfl rfl ?_
  | refine L.cmpS rfl rfl rfl rfl ?_
  | refine L.make rfl rfl (by omega) (by omega) (by omega) rfl rfl ?_
  | refine L.bs1 rfl rfl rfl ?_
  | refine L.bs0 rfl rfl ?_
  | refine L.met rfl rfl rfl ?_
  | refine L.loadG rfl rfl (by kernel_rfl) rfl ?_))
      refine Sp.ret (retK.t2 [(3, some (.cells (arr .u8 (xorTo key c nonce b n n)) false true))] rfl rfl rfl (Less.cons rfl (Less.nil _)) ⟨rfl, rfl⟩)
end Go.Proofs.YtbfakdpnefhgkaaDoor
