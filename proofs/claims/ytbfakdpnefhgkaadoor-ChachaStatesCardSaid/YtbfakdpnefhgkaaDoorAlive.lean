/-
  The walk of 'lives': it returns true.
-/
import Derived.Test.YtbfakdpnefhgkaaDoorLives
namespace Go.Proofs.YtbfakdpnefhgkaaDoor
open Go.RowKit Bv Rgn Mem
def zeros32 : Array Value := arr .u8 (List.replicate 32 0#8)
def zeros12 : Array Value := arr .u8 (List.replicate 12 0#8)
theorem quarter_lit (w : World) : Calls Tryd.prog 10 #[.int .u32 286331153, .int .u32 16909060, .int .u32 2609737539, .int .u32 19088743] w
    fun e w' => e = .returned (.tuple #[.int .u32 3928658676, .int .u32 3407673550, .int .u32 1166100270, .int .u32 1484899515]) ∧ w = w' := by
  have h := quarter_any 286331153#32 16909060#32 2609737539#32 19088743#32 w
  rw [quarter_first] at h
  exact h
theorem block_lit (w : World) (hc : ColsAt w) : Calls Tryd.prog 22 #[.agg (arr .u8 firstKey), .int .u32 1, .agg (arr .u8 firstNonce)] w
    fun e w' => e = .returned (.agg (arr .u8 firstBlock)) ∧ Below w.heap.size w w' := by
  have h := block_any firstKey firstNonce 1#32 rfl rfl w hc
  rw [block_first] at h
  exact h
theorem first8 : ((str (firstBlock.take 8)).toList == [16, 241, 231, 228, 209, 59, 89, 21]) = true := by decide +kernel
set_option maxHeartbeats 800000 in
theorem lives_any (w : World) (hc : ColsAt w) : Calls Tryd.prog 9 #[] w fun e w' => e = .returned (.bool true) ∧ Below w.heap.size w w' := by
  have h0 := hc.lt
  have HC := Lib.hid hc
  have s24 : (Tryd.prog.info? 24).map (·.size) = some (arr .u8 firstKey).size := by kernel_rfl
  have s25 : (Tryd.prog.info? 25).map (·.size) = some (arr .u8 firstNonce).size := by kernel_rfl
  have s44 : (Tryd.prog.info? 44).map (·.size) = some (arr .u8 firstBlock).size := by kernel_rfl
  have S24 := Lib.hid s24
  have S25 := Lib.hid s25
  have S44 := Lib.hid s44
  clear s24 s25 s44 hc
  go_enter Tryd.func9, Tryd.ntmps9
  go_upto_region 3 with (first
    | (go_at_call 10; refine (quarter_lit _).mono ?_; rintro e w' ⟨rfl, rfl⟩)
    | (go_at_call 15; refine (first_any _).mono ?_; rintro e w1 ⟨rfl, hb1⟩)
    | ((with_reducible show wpList _ _ _ (⟨none, .store 24 _ _, _, _, _, _⟩ :: _) _ _); refine wpList_storeA ((Bk.new _ _ _).alloc _) 24 _ _ rfl rfl rfl rfl S24.out rfl (arr_one _ _) ?_)
    | ((with_reducible show wpList _ _ _ (⟨none, .store 25 _ _, _, _, _, _⟩ :: _) _ _); refine wpList_storeA ((Bk.new2 _ _ _ _).farRow (by omega) _) 25 _ _ rfl rfl rfl rfl S25.out rfl (arr_one _ _) ?_))
  have hz1 := hb1.size
  refine wp_region_lit ?_
  refine wpList_loadA ((((Bk.new _ _ _).alloc _).setRow _).farRow (by omega) _) 24 _ rfl rfl rfl Tryd.underlying24 S24.out ?_
  go_upto_region 4 with (first
    | (go_at_call 22; refine (block_lit _ (HC.out.keep (below_row (below_row ((hb1.alloc (by omega) _).alloc (by simp; omega) _) (by omega) _) (by omega) _) h0)).mono ?_; rintro e w2 ⟨rfl, hb2⟩)
    | ((with_reducible show wpList _ _ _ (⟨some 19, _, _, _, _, _⟩ :: _) _ _); refine wpList_loadA (((Bk.new2 _ _ _ _).farRow (by omega) _).setRow _) 25 _ rfl rfl rfl Tryd.underlying25 S25.out ?_)
    | ((with_reducible show wpList _ _ _ (⟨none, .store 44 _ _, _, _, _, _⟩ :: _) _ _); refine wpList_storeA (Bk.new _ _ _) 44 _ _ rfl rfl rfl rfl S44.out rfl (arr_one _ _) ?_))
  refine forgetC (fun W => Bk W w2.heap.size 44 (arr .u8 firstBlock) ∧ Below w.heap.size w W) ⟨(Bk.new _ _ _).setRow _, ?_⟩ ?_
  · exact below_row (((below_row (below_row ((hb1.alloc (by omega) _).alloc (by simp; omega) _) (by omega) _) (by omega) _).trans (hb2.mono (by simp; omega))).alloc (by have := hb2.size; simp at this; omega) _) (by have := hb2.size; simp at this; omega) _
  intro W ⟨bW, hB⟩
  have hsl := fun W' => sl_hi Tryd.underlying44 (by kernel_rfl : (Tryd.prog.info? 5).map (·.size) = some 1) w2.heap.size 0 .i64 8 8 rfl (by omega) W'
  have hcv : (convert 39 9 (.slice (some ⟨w2.heap.size, 0, none⟩) 8 64)).run Tryd.prog W = .ok (.string (str (firstBlock.take 8))) W :=
    run_str Tryd.underlying39 Tryd.underlying5 Tryd.underlying9 w2.heap.size 0 64 (firstBlock.take 8) W (fun i hi => by
      have hi8 : i < 8 := hi
      rw [Nat.zero_add, bW.word i (by show i < 64; omega)]
      have : at_ (firstBlock.take 8) i = at_ firstBlock i := by simp [at_, List.getD_eq_getElem?_getD, hi8]
      rw [this])
  clear bW hb1 hb2 hz1
  go_wp2
  go_ret
  exact ⟨congrArg (fun b => Ending.returned (.bool b)) first8, hB⟩
end Go.Proofs.YtbfakdpnefhgkaaDoor
