/-
  The walks of 'first' and 'lives': the chapter's examples hold.
-/
import Derived.Test.YtbfakdpnefhgkaaDoorBlock
import Derived.Test.YtbfakdpnefhgkaaDoorMem2
namespace Go.Proofs.YtbfakdpnefhgkaaDoor
open Go.RowKit Bv Rgn Mem
def fkTo (k : Nat) : List (BitVec 8) := (List.range k).foldl (fun l i => l.set i (BitVec.ofNat 8 i)) (List.replicate 32 0#8)
def firstKey : List (BitVec 8) := fkTo 32
def firstNonce : List (BitVec 8) := [0#8, 0#8, 0#8, 9#8, 0#8, 0#8, 0#8, 74#8, 0#8, 0#8, 0#8, 0#8]
theorem fkTo_succ (k : Nat) : fkTo (k + 1) = (fkTo k).set k (BitVec.ofNat 8 k) := by simp [fkTo, List.range_succ]
theorem fkTo_length (k : Nat) : (fkTo k).length = 32 := by
  induction k with
  | zero => rfl
  | succ k ih => rw [fkTo_succ, List.length_set, ih]
def firstBlock : List (BitVec 8) := [16#8, 241#8, 231#8, 228#8, 209#8, 59#8, 89#8, 21#8, 80#8, 15#8, 221#8, 31#8, 163#8, 32#8, 113#8, 196#8, 199#8, 209#8, 244#8, 199#8, 51#8, 192#8, 104#8, 3#8, 4#8, 34#8, 170#8, 154#8, 195#8, 212#8, 108#8, 78#8, 210#8, 130#8, 100#8, 70#8, 7#8, 159#8, 170#8, 9#8, 20#8, 194#8, 215#8, 5#8, 217#8, 139#8, 2#8, 162#8, 181#8, 18#8, 156#8, 209#8, 222#8, 22#8, 78#8, 185#8, 203#8, 208#8, 131#8, 232#8, 162#8, 80#8, 60#8, 78#8]
set_option maxRecDepth 100000 in
theorem block_first : block firstKey 1#32 firstNonce = firstBlock := by decide +kernel
theorem quarter_first : four (quarter 286331153#32 16909060#32 2609737539#32 19088743#32) = .tuple #[.int .u32 3928658676, .int .u32 3407673550, .int .u32 1166100270, .int .u32 1484899515] := by kernel_rfl
theorem nb_small (k : Nat) (h : k < 256) : (k : Int) = nb (BitVec.ofNat 8 k) := by
  unfold nb; rw [BitVec.toNat_ofNat, Nat.mod_eq_of_lt (by omega)]
set_option maxHeartbeats 400000 in
theorem first_any (w : World) : Calls Tryd.prog 15 #[] w fun e w' => e = .returned (.tuple #[.agg (arr .u8 firstKey), .agg (arr .u8 firstNonce)]) ∧ Below w.heap.size w w' := by
  go_enter Tryd.func15, Tryd.ntmps15
  go_wp2
  go_loopw [3] (fun i wr => ∃ k : Nat, k ≤ 32 ∧ i = .int .i64 k ∧ Bk wr w.heap.size 24 (arr .u8 (List.replicate 32 0#8)) ∧ Bk wr (w.heap.size + 1) 25 (arr .u8 (List.replicate 12 0#8)) ∧ Bk wr (w.heap.size + 2) 24 (arr .u8 (fkTo k)) ∧ Below w.heap.size w wr)
    (fun i _ => 32 - (intOf i).toNat)
  case atStart => exact ⟨0, by omega, rfl, ((Bk.new _ _ _).alloc _).alloc _, (Bk.new2 _ _ _ _).alloc _, Bk.new3 _ _ _ _ _, (((Below.refl _ _).alloc (by simp) _).alloc (by simp) _).alloc (by simp; omega) _⟩
  case round =>
    obtain ⟨k, hk, rfl, b0, b1, b2, hB⟩ := hrel
    have H0 := Lib.hid b0
    have H1 := Lib.hid b1
    have H2 := Lib.hid b2
    clear b0 b1 b2
    by_cases hlt : k < 32
    · have c2 := H2.out.word k (by rw [fkTo_length]; omega)
      have f2 := H2.out.frozen k
      go_wp2
      go_roundw
      case rel =>
        refine ⟨k + 1, by omega, by go_num, H0.out.far (show w.heap.size ≠ w.heap.size + 2 by omega) _, H1.out.far (show w.heap.size + 1 ≠ w.heap.size + 2 by omega) _, ?_, hB.setCell (show w.heap.size ≤ w.heap.size + 2 by omega) _⟩
        rw [fkTo_succ, nb_small k (by omega)]
        exact H2.out.setWord k _
      case measure => simp [intOf]; omega
    · have hk' : k = 32 := by omega
      have HK := Lib.hid hk'
      clear hk'
      have hi : (Tryd.prog.info? 24).map (·.size) = some (arr .u8 (fkTo k)).size := by rw [arr_size, fkTo_length]; kernel_rfl
      have hi2 : (Tryd.prog.info? 25).map (·.size) = some (arr .u8 firstNonce).size := by kernel_rfl
      have HI := Lib.hid hi
      clear hi
      go_upto_region 6 with (fail)
      refine wp_region_lit ?_
      refine wpList_loadA H2.out 24 _ rfl rfl rfl Tryd.underlying24 HI.out ?_
      go_wp2_with (first
        | ((with_reducible show wpList _ _ _ (⟨none, .store 24 _ _, _, _, _, _⟩ :: _) _ _); refine wpList_storeA H0.out 24 _ _ rfl rfl rfl rfl HI.out (by rw [arr_size, arr_size, fkTo_length]; rfl) (arr_one _ _) ?_)
        | ((with_reducible show wpList _ _ _ (⟨none, .store 25 _ _, _, _, _, _⟩ :: _) _ _); refine wpList_storeA (cs := arr .u8 firstNonce) (H1.out.farRow (by omega) _) 25 _ _ rfl rfl rfl rfl hi2 rfl (arr_one _ _) ?_))
      refine bodyPost_ret (results_cell2 Tryd.results15 _ _ w.heap.size (w.heap.size + 1) 24 25 _ _ _ _ rfl rfl ((H0.out.setRow _).farRow (by omega) _) ((H1.out.farRow (by omega) _).setRow _) Tryd.underlying24 rfl HI.out Tryd.underlying25 rfl hi2) rfl ⟨?_, ?_⟩
      · rw [HK.out]; rfl
      · exact below_row (below_row hB (by omega) _) (by omega) _
end Go.Proofs.YtbfakdpnefhgkaaDoor
