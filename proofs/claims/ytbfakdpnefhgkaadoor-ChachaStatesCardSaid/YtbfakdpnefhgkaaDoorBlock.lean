/-
  The walk of chacha.Block.
-/
import Derived.Test.YtbfakdpnefhgkaaDoorRound
import Derived.Test.YtbfakdpnefhgkaaDoorState
namespace Go.Proofs.YtbfakdpnefhgkaaDoor
open Go.RowKit Bv Rgn Mem
def zeros64 : Array Value := arr .u8 (List.replicate 64 0#8)
theorem sizeKey {key : List (BitVec 8)} (hk : key.length = 32) : (Tryd.prog.info? 24).map (·.size) = some (arr .u8 key).size := by rw [arr_size, hk]; kernel_rfl
theorem sizeNonce {key : List (BitVec 8)} (hk : key.length = 12) : (Tryd.prog.info? 25).map (·.size) = some (arr .u8 key).size := by rw [arr_size, hk]; kernel_rfl
theorem sizeWords {s : List (BitVec 32)} (hk : s.length = 16) : (Tryd.prog.info? 23).map (·.size) = some (arr .u32 s).size := by rw [arr_size, hk]; kernel_rfl
theorem sizeBlock {s : List (BitVec 8)} (hk : s.length = 64) : (Tryd.prog.info? 44).map (·.size) = some (arr .u8 s).size := by rw [arr_size, hk]; kernel_rfl
theorem zerosSize {s : List (BitVec 32)} (hk : s.length = 16) : zeros16.size = (arr .u32 s).size := by rw [arr_size, hk]; rfl
theorem wordsSize {s t : List (BitVec 32)} (hk : s.length = 16) (hk' : t.length = 16) : (arr .u32 s).size = (arr .u32 t).size := by rw [arr_size, hk, arr_size, hk']
set_option maxHeartbeats 400000 in
set_option maxRecDepth 100000 in
theorem block_any (key nonce : List (BitVec 8)) (c : BitVec 32) (hk : key.length = 32) (hn : nonce.length = 12) (w : World) (hcol : ColsAt w) :
    Calls Tryd.prog 22 #[.agg (arr .u8 key), .int .u32 (nb c), .agg (arr .u8 nonce)] w fun e w' => e = .returned (.agg (arr .u8 (block key c nonce))) ∧ Below w.heap.size w w' := by
  have hK := sizeKey hk
  have hN := sizeNonce hn
  have h0 := hcol.lt
  have hst := state_length key c nonce
  have HST := Lib.hid hst
  have HKs := Lib.hid hK
  have HNs := Lib.hid hN
  have HC := Lib.hid hcol
  clear hK hN hcol hst
  go_enter Tryd.func22, Tryd.ntmps22
  go_upto_region 1 with (fail)
  refine wp_region_lit ?_
  refine wpList_loadA (((Bk.new _ _ _).alloc _).alloc _) 24 _ rfl rfl rfl Tryd.underlying24 HKs.out ?_
  go_upto_region 2 with (first
    | (go_at_call 13; refine (state_any _ _ _ hk hn _).mono ?_; rintro e w1 ⟨rfl, hb1⟩)
    | ((with_reducible show wpList _ _ _ (⟨some 13, _, _, _, _, _⟩ :: _) _ _); refine wpList_loadA ((Bk.new2 _ _ _ _).alloc _) 25 _ rfl rfl rfl Tryd.underlying25 HNs.out ?_)
    | ((with_reducible show wpList _ _ _ (⟨none, _, _, _, _, _⟩ :: _) _ _); refine wpList_storeA (Bk.new _ _ _) 23 _ _ rfl rfl rfl rfl (sizeWords HST.out) (zerosSize HST.out) (arr_one _ _) ?_))
  have hb1' : Below w.heap.size w w1 := ((((Below.refl w.heap.size w).alloc (by simp) _).alloc (by simp) _).alloc (by simp; omega) _).trans (hb1.mono (by simp; omega))
  have bO : Bk w1 (w.heap.size + 2) 44 zeros64 := (Bk.new3 _ _ _ _ _).below hb1 (by simp)
  have hz1 : w.heap.size + 3 ≤ w1.heap.size := by have := hb1.size; simp at this; omega
  have HO := Lib.hid bO
  clear hb1 bO
  refine wp_region_lit ?_
  refine wpList_loadA ((Bk.new _ _ _).setRow _) 23 _ rfl rfl rfl Tryd.underlying23 (sizeWords HST.out) ?_
  go_upto_region 3 with ((with_reducible show wpList _ _ _ (⟨none, _, _, _, _, _⟩ :: _) _ _); refine wpList_storeA (Bk.newAt _ (by simp) _ _) 23 _ _ rfl rfl rfl rfl (sizeWords HST.out) (zerosSize HST.out) (arr_one _ _) ?_)
  obtain ⟨st, hst⟩ : ∃ st, st = state key c nonce := ⟨_, rfl⟩
  rw [← hst] at HST
  rw [← hst]
  have HSt := Lib.hid hst
  clear hst
  have HB1 := Lib.hid hb1'
  clear hb1'
  go_wp2
  go_loopw [16] (fun i wr => ∃ k : Nat, k ≤ 10 ∧ i = .int .i64 k ∧ Bk wr (w.heap.size + 2) 44 zeros64 ∧ Bk wr w1.heap.size 23 (arr .u32 st) ∧ Bk wr (w1.heap.size + 1) 23 (arr .u32 (rounds st k)) ∧
      Below w.heap.size w wr) (fun i _ => 10 - (intOf i).toNat)
  case atStart =>
    refine ⟨0, by omega, rfl, ?_, ?_, ?_, ?_⟩
    · exact (((HO.out.alloc _).farRow (by omega) _).alloc _).farRow (by omega) _
    · exact (((Bk.new _ _ _).setRow _).alloc _).farRow (by omega) _
    · exact (Bk.newAt _ (by simp) _ _).setRow _
    · exact below_row ((below_row (HB1.out.alloc (by omega) _) (by omega) _).alloc (by simp; omega) _) (by omega) _
  case round =>
    obtain ⟨k, hk10, rfl, bO, bF, bS, hB⟩ := hrel
    have lF := bF.lt
    have lS := bS.lt
    have HO2 := Lib.hid bO
    have HF := Lib.hid bF
    have HS := Lib.hid bS
    clear bO bF bS HO HB1
    have hrl : (rounds st k).length = 16 := by rw [rounds_length]; exact HST.out
    have HRL := Lib.hid hrl
    clear hrl
    by_cases hlt : k < 10
    · go_upto_region 5 with (fail)
      refine wp_region_lit ?_
      refine wpList_loadA HS.out 23 _ rfl rfl rfl Tryd.underlying23 (sizeWords HRL.out) ?_
      have hcr : ColsAt wr := HC.out.keep hB h0
      have HCR := Lib.hid hcr
      clear hcr
      go_upto_region 6 with (first
        | (go_at_call 12; refine (round_any _ HRL.out _ HCR.out).mono ?_; rintro e w2 ⟨rfl, hb2⟩)
        | ((with_reducible show wpList _ _ _ (⟨none, _, _, _, _, _⟩ :: _) _ _); refine wpList_storeA (HS.out.below hb2 lS) 23 _ _ rfl rfl rfl rfl (sizeWords (by rw [roundTo_length]; exact HRL.out)) (wordsSize HRL.out (by rw [roundTo_length]; exact HRL.out)) (arr_one _ _) ?_))
      have hbw : Below w.heap.size w w2 := hB.trans (hb2.mono (by omega))
      have r1 := (HO2.out.below hb2 (by omega)).farRow (show w.heap.size + 2 ≠ w1.heap.size + 1 by omega) (arr .u32 (roundTo 8 (rounds st k)))
      have r2 := (HF.out.below hb2 (by omega)).farRow (show w1.heap.size ≠ w1.heap.size + 1 by omega) (arr .u32 (roundTo 8 (rounds st k)))
      have r3 := (HS.out.below hb2 lS).setRow (arr .u32 (roundTo 8 (rounds st k)))
      have r4 := below_row hbw (show w.heap.size ≤ w1.heap.size + 1 by omega) (arr .u32 (roundTo 8 (rounds st k)))
      have R1 := Lib.hid r1
      have R2 := Lib.hid r2
      have R3 := Lib.hid r3
      have R4 := Lib.hid r4
      clear r1 r2 r3 r4 hbw hb2
      go_wp2
      go_roundw
      case rel => exact ⟨k + 1, by omega, by go_num, R1.out, R2.out, R3.out, R4.out⟩
      case measure => simp [intOf]; omega
    · have hk' : k = 10 := by omega
      have HK10 := Lib.hid hk'
      clear hk'
      go_upto_region 7 with (fail)
      refine wp_region_lit ?_
      refine wpList_loadA HS.out 23 _ rfl rfl rfl Tryd.underlying23 (sizeWords HRL.out) ?_
      obtain ⟨S, hS⟩ : ∃ S, S = rounds st k := ⟨_, rfl⟩
      rw [← hS] at HRL
      rw [← hS]
      have HSS := Lib.hid hS
      clear hS HS lS
      go_wp2
      go_loopw [22] (fun i wr2 => ∃ k : Nat, k ≤ 16 ∧ i = .int .i64 k ∧ Bk wr2 (w.heap.size + 2) 44 (arr .u8 (serTo S st k)) ∧ Bk wr2 w1.heap.size 23 (arr .u32 st) ∧ Below w.heap.size w wr2) (fun i _ => 16 - (intOf i).toNat)
      case atStart => exact ⟨0, by omega, rfl, HO2.out, HF.out, hB⟩
      case round =>
        clear HO2 HF hB lF
        obtain ⟨k, hk16, rfl, bO, bF, hB⟩ := hrel
        have HO := Lib.hid bO
        have HF := Lib.hid bF
        clear bO bF
        by_cases hlt : k < 16
        · have hix := fun W => run_index_arr Tryd.underlying23 Tryd.underlying22 (by kernel_rfl : (Tryd.prog.info? 22).map (·.size) = some 1) .i64 S HRL.out (k : Int) k rfl hlt W
          have cF := HF.out.word k (by rw [HST.out]; omega)
          have hl := serTo_length S st k
          have c0 := HO.out.word (4 * k) (by rw [hl]; omega)
          have c1 := HO.out.word (4 * k + 1) (by rw [hl]; omega)
          have c2 := HO.out.word (4 * k + 2) (by rw [hl]; omega)
          have c3 := HO.out.word (4 * k + 3) (by rw [hl]; omega)
          have f0 := HO.out.frozen (4 * k)
          have f1 := HO.out.frozen (4 * k + 1)
          have f2 := HO.out.frozen (4 * k + 2)
          have f3 := HO.out.frozen (4 * k + 3)
          clear hl
          go_wp2
          go_roundw
          case rel =>
            refine ⟨k + 1, by omega, by go_num, ?_, ?_, ?_⟩
            · rw [serTo_succ]
              exact (((HO.out.setWord (4 * k) _).setWord (4 * k + 1) _).setWord (4 * k + 2) _).setWord (4 * k + 3) _
            · have hne : w1.heap.size ≠ w.heap.size + 2 := by omega
              exact (((HF.out.far hne _).far hne _).far hne _).far hne _
            · have hle : w.heap.size ≤ w.heap.size + 2 := by omega
              exact (((hB.setCell hle _).setCell hle _).setCell hle _).setCell hle _
          case measure => simp [intOf]; omega
        · have hk' : k = 16 := by omega
          have HK16 := Lib.hid hk'
          clear hk'
          go_upto_region 13 with (fail)
          refine wp_region_lit ?_
          refine wpList_loadA HO.out 44 _ rfl rfl rfl Tryd.underlying44 (sizeBlock (serTo_length _ _ _)) ?_
          refine wpList_storeA HO.out 44 _ _ rfl rfl rfl rfl (sizeBlock (serTo_length _ _ _)) rfl (arr_one _ _) ?_
          have hz := HO.out.setRow (arr .u8 (serTo S st k))
          have hB2 := below_row hB (show w.heap.size ≤ w.heap.size + 2 by omega) (arr .u8 (serTo S st k))
          have HZ2 := Lib.hid hz
          have HB2 := Lib.hid hB2
          clear hz hB2 hB HO HF
          go_wp2
          refine bodyPost_ret (results_cell_row Tryd.results22 _ _ (w.heap.size + 2) 44 _ (0, 0) _ rfl HZ2.out Tryd.underlying44 rfl (sizeBlock (serTo_length _ _ _))) rfl ⟨?_, HB2.out⟩
          have e := HSS.out
          rw [HK10.out] at e
          rw [HK16.out, e]
          rw [HSt.out]
          rfl
end Go.Proofs.YtbfakdpnefhgkaaDoor
