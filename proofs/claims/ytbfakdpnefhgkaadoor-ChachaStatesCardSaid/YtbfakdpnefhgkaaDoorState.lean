/-
  The walks of State: of the program's, and of the document's.
-/
import Derived.Test.YtbfakdpnefhgkaaDoorW1
import Derived.Deep.Cut
namespace Go.Proofs.YtbfakdpnefhgkaaDoor
open Go.RowKit Bv Rgn Mem
set_option maxHeartbeats 2000000 in
theorem state_any (key nonce : List (BitVec 8)) (c : BitVec 32) (hk : key.length = 32) (hn : nonce.length = 12) (w : World) :
    Calls Tryd.prog 13 #[.agg (arr .u8 key), .int .u32 (nb c), .agg (arr .u8 nonce)] w fun e w' => e = .returned (.agg (arr .u32 (state key c nonce))) ∧ Below w.heap.size w w' := by
  go_enter Tryd.func13, Tryd.ntmps13
  go_wp2
  go_loopw [11] (fun i wr => ∃ k : Nat, k ≤ 8 ∧ i = .int .i64 k ∧ Bk wr w.heap.size 24 (arr .u8 key) ∧ Bk wr (w.heap.size + 1) 25 (arr .u8 nonce) ∧ Bk wr (w.heap.size + 2) 23 zeros16 ∧
      Bk wr (w.heap.size + 3) 23 (arr .u32 (stKey key k)) ∧ Below w.heap.size w wr) (fun i _ => 8 - (intOf i).toNat)
  case atStart =>
    exact ⟨0, by omega, rfl, (((Bk.new _ _ _).alloc _).alloc _).alloc _, ((Bk.new2 _ _ _ _).alloc _).alloc _, (Bk.new3 _ _ _ _ _).alloc _, Bk.new4 _ _ _ _ _ _,
      ((((Below.refl _ _).alloc (by simp) _).alloc (by simp) _).alloc (by simp; omega) _).alloc (by simp; omega) _⟩
  case round =>
    obtain ⟨k, hk8, rfl, bK, bN, bZ, bS, hB⟩ := hrel
    have lK := bK.lt
    have lS := bS.lt
    have HK := Lib.hid bK
    have HN := Lib.hid bN
    have HZ := Lib.hid bZ
    have HS := Lib.hid bS
    clear bK bN bZ bS
    by_cases hlt : k < 8
    · have cS := HS.out.word (4 + k) (by rw [stKey_length]; omega)
      have fS := HS.out.frozen (4 + k)
      have hsl := fun W => sl_lo Tryd.underlying24 (by kernel_rfl : (Tryd.prog.info? 5).map (·.size) = some 1) w.heap.size 0 .i64 (4 * (k : Int)) (4 * k) (by omega) (by omega) W
      rw [Nat.zero_add] at hsl
      go_wp2_with (go_at_call 25; refine (word_any w.heap.size (4 * k) _ _ (at_ key (4 * k)) (at_ key (4 * k + 1)) (at_ key (4 * k + 2)) (at_ key (4 * k + 3)) _ (by omega) (HK.out.word _ (by omega)) (HK.out.word _ (by omega)) (HK.out.word _ (by omega)) (HK.out.word _ (by omega))).mono ?_; rintro e w' ⟨rfl, rfl⟩)
      have r4 : Bk (wr.drew.setCell ⟨w.heap.size + 3, 4 + k, none⟩ (.int .u32 (nb (wordAt key (4 * k))))) (w.heap.size + 3) 23 (arr .u32 (stKey key (k + 1))) := by
        rw [stKey_succ]; exact HS.out.drew.setWord _ _
      have R4 := Lib.hid r4
      clear r4 cS fS
      go_roundw
      case rel =>
        exact ⟨k + 1, by omega, by go_num, HK.out.drew.far (show w.heap.size ≠ w.heap.size + 3 by omega) _, HN.out.drew.far (show w.heap.size + 1 ≠ w.heap.size + 3 by omega) _, HZ.out.drew.far (show w.heap.size + 2 ≠ w.heap.size + 3 by omega) _, R4.out,
          hB.drew.setCell (show w.heap.size ≤ w.heap.size + 3 by omega) _⟩
      case measure => simp [intOf]; omega
    · have hk' : k = 8 := by omega
      rw [hk'] at HS
      clear hk'
      have cS := HS.out.word 12 (by rw [stKey_length]; omega)
      have fS := HS.out.frozen 12
      go_wp2
      go_loopw [24] (fun i wr2 => ∃ k : Nat, k ≤ 3 ∧ i = .int .i64 k ∧ Bk wr2 (w.heap.size + 1) 25 (arr .u8 nonce) ∧ Bk wr2 (w.heap.size + 2) 23 zeros16 ∧
          Bk wr2 (w.heap.size + 3) 23 (arr .u32 (stNon ((stKey key 8).set 12 c) nonce k)) ∧ Below w.heap.size w wr2) (fun i _ => 3 - (intOf i).toNat)
      case atStart =>
        exact ⟨0, by omega, rfl, HN.out.far (show w.heap.size + 1 ≠ w.heap.size + 3 by omega) _, HZ.out.far (show w.heap.size + 2 ≠ w.heap.size + 3 by omega) _, HS.out.setWord 12 c, hB.setCell (show w.heap.size ≤ w.heap.size + 3 by omega) _⟩
      case round =>
        clear HK HN HZ HS cS fS hB lK lS
        obtain ⟨k, hk3, rfl, bN, bZ, bS, hB⟩ := hrel
        have lS := bS.lt
        have HN := Lib.hid bN
        have HZ := Lib.hid bZ
        have HS := Lib.hid bS
        clear bN bZ bS
        by_cases hlt : k < 3
        · have cS := HS.out.word (13 + k) (by rw [stNon_length, List.length_set, stKey_length]; omega)
          have fS := HS.out.frozen (13 + k)
          have hsl := fun W => sl_lo Tryd.underlying25 (by kernel_rfl : (Tryd.prog.info? 5).map (·.size) = some 1) (w.heap.size + 1) 0 .i64 (4 * (k : Int)) (4 * k) (by omega) (by omega) W
          rw [Nat.zero_add] at hsl
          go_wp2_with (go_at_call 25; refine (word_any (w.heap.size + 1) (4 * k) _ _ (at_ nonce (4 * k)) (at_ nonce (4 * k + 1)) (at_ nonce (4 * k + 2)) (at_ nonce (4 * k + 3)) _ (by omega) (HN.out.word _ (by omega)) (HN.out.word _ (by omega)) (HN.out.word _ (by omega)) (HN.out.word _ (by omega))).mono ?_; rintro e w' ⟨rfl, rfl⟩)
          have r4 : Bk (wr.drew.setCell ⟨w.heap.size + 3, 13 + k, none⟩ (.int .u32 (nb (wordAt nonce (4 * k))))) (w.heap.size + 3) 23 (arr .u32 (stNon ((stKey key 8).set 12 c) nonce (k + 1))) := by
            rw [stNon_succ]; exact HS.out.drew.setWord _ _
          have R4 := Lib.hid r4
          clear r4 cS fS
          go_roundw
          case rel =>
            exact ⟨k + 1, by omega, by go_num, HN.out.drew.far (show w.heap.size + 1 ≠ w.heap.size + 3 by omega) _, HZ.out.drew.far (show w.heap.size + 2 ≠ w.heap.size + 3 by omega) _, R4.out,
              hB.drew.setCell (show w.heap.size ≤ w.heap.size + 3 by omega) _⟩
          case measure => simp [intOf]; omega
        · have hk' : k = 3 := by omega
          rw [hk'] at HS
          clear hk'
          go_upto_region 13 with (fail)
          have hi : (Tryd.prog.info? 23).map (·.size) = some (arr .u32 (state key c nonce)).size := by
            rw [arr_size, state_length]; kernel_rfl
          refine wp_region_lit ?_
          refine wpList_loadA (cs := arr .u32 (state key c nonce)) HS.out 23 _ rfl rfl rfl Tryd.underlying23 hi ?_
          refine wpList_storeA HZ.out 23 _ _ rfl rfl rfl rfl hi (by rw [arr_size, state_length]; rfl) (arr_one _ _) ?_
          have hz := HZ.out.setRow (arr .u32 (state key c nonce))
          have hB2 := below_row hB (show w.heap.size ≤ w.heap.size + 2 by omega) (arr .u32 (state key c nonce))
          have HZ2 := Lib.hid hz
          clear hz HZ HS HN hB
          go_wp2
          exact bodyPost_ret (results_cell_row Tryd.results13 _ _ (w.heap.size + 2) 23 _ (0, 0) _ rfl HZ2.out Tryd.underlying23 rfl hi) rfl ⟨rfl, hB2⟩
set_option maxHeartbeats 2000000 in
theorem state_ref (key nonce : List (BitVec 8)) (c : BitVec 32) (hk : key.length = 32) (hn : nonce.length = 12) (w : World) :
    Calls Tryd.prog 21 #[.agg (arr .u8 key), .int .u32 (nb c), .agg (arr .u8 nonce)] w fun e w' => e = .returned (.agg (arr .u32 (state key c nonce))) ∧ Below w.heap.size w w' := by
  go_enter Tryd.func21, Tryd.ntmps21
  go_wp2
  go_loopw [8] (fun i wr => ∃ k : Nat, k ≤ 8 ∧ i = .int .i64 k ∧ Bk wr w.heap.size 24 (arr .u8 key) ∧ Bk wr (w.heap.size + 1) 25 (arr .u8 nonce) ∧ Bk wr (w.heap.size + 2) 23 zeros16 ∧
      Bk wr (w.heap.size + 3) 23 (arr .u32 (stKey key k)) ∧ Below w.heap.size w wr) (fun i _ => 8 - (intOf i).toNat)
  case atStart =>
    exact ⟨0, by omega, rfl, (((Bk.new _ _ _).alloc _).alloc _).alloc _, ((Bk.new2 _ _ _ _).alloc _).alloc _, (Bk.new3 _ _ _ _ _).alloc _, Bk.new4 _ _ _ _ _ _,
      ((((Below.refl _ _).alloc (by simp) _).alloc (by simp) _).alloc (by simp; omega) _).alloc (by simp; omega) _⟩
  case round =>
    obtain ⟨k, hk8, rfl, bK, bN, bZ, bS, hB⟩ := hrel
    have lK := bK.lt
    have lS := bS.lt
    have HK := Lib.hid bK
    have HN := Lib.hid bN
    have HZ := Lib.hid bZ
    have HS := Lib.hid bS
    clear bK bN bZ bS
    by_cases hlt : k < 8
    · have cS := HS.out.word (4 + k) (by rw [stKey_length]; omega)
      have fS := HS.out.frozen (4 + k)
      have hsl := fun W => sl_both Tryd.underlying24 (by kernel_rfl : (Tryd.prog.info? 5).map (·.size) = some 1) w.heap.size 0 .i64 .i64 (4 * (k : Int)) (4 * (k : Int) + 4) (4 * k) (4 * k + 4) (by omega) (by omega) (by omega) (by omega) (by omega) W
      rw [Nat.zero_add] at hsl
      go_wp2_with (go_at_call 27; refine (word_ref w.heap.size (4 * k) _ _ (at_ key (4 * k)) (at_ key (4 * k + 1)) (at_ key (4 * k + 2)) (at_ key (4 * k + 3)) _ (by omega) (HK.out.word _ (by omega)) (HK.out.word _ (by omega)) (HK.out.word _ (by omega)) (HK.out.word _ (by omega))).mono ?_; rintro e w' ⟨rfl, rfl⟩)
      have r4 : Bk (wr.drew.setCell ⟨w.heap.size + 3, 4 + k, none⟩ (.int .u32 (nb (wordAt key (4 * k))))) (w.heap.size + 3) 23 (arr .u32 (stKey key (k + 1))) := by
        rw [stKey_succ]; exact HS.out.drew.setWord _ _
      have R4 := Lib.hid r4
      clear r4 cS fS
      go_roundw
      case rel =>
        exact ⟨k + 1, by omega, by go_num, HK.out.drew.far (show w.heap.size ≠ w.heap.size + 3 by omega) _, HN.out.drew.far (show w.heap.size + 1 ≠ w.heap.size + 3 by omega) _, HZ.out.drew.far (show w.heap.size + 2 ≠ w.heap.size + 3 by omega) _, R4.out,
          hB.drew.setCell (show w.heap.size ≤ w.heap.size + 3 by omega) _⟩
      case measure => simp [intOf]; omega
    · have hk' : k = 8 := by omega
      rw [hk'] at HS
      clear hk'
      have cS := HS.out.word 12 (by rw [stKey_length]; omega)
      have fS := HS.out.frozen 12
      go_wp2
      go_loopw [9] (fun i wr2 => ∃ k : Nat, k ≤ 3 ∧ i = .int .i64 k ∧ Bk wr2 (w.heap.size + 1) 25 (arr .u8 nonce) ∧ Bk wr2 (w.heap.size + 2) 23 zeros16 ∧
          Bk wr2 (w.heap.size + 3) 23 (arr .u32 (stNon ((stKey key 8).set 12 c) nonce k)) ∧ Below w.heap.size w wr2) (fun i _ => 3 - (intOf i).toNat)
      case atStart =>
        exact ⟨0, by omega, rfl, HN.out.far (show w.heap.size + 1 ≠ w.heap.size + 3 by omega) _, HZ.out.far (show w.heap.size + 2 ≠ w.heap.size + 3 by omega) _, HS.out.setWord 12 c, hB.setCell (show w.heap.size ≤ w.heap.size + 3 by omega) _⟩
      case round =>
        clear HK HN HZ HS cS fS hB lK lS
        obtain ⟨k, hk3, rfl, bN, bZ, bS, hB⟩ := hrel
        have lS := bS.lt
        have HN := Lib.hid bN
        have HZ := Lib.hid bZ
        have HS := Lib.hid bS
        clear bN bZ bS
        by_cases hlt : k < 3
        · have cS := HS.out.word (13 + k) (by rw [stNon_length, List.length_set, stKey_length]; omega)
          have fS := HS.out.frozen (13 + k)
          have hsl := fun W => sl_both Tryd.underlying25 (by kernel_rfl : (Tryd.prog.info? 5).map (·.size) = some 1) (w.heap.size + 1) 0 .i64 .i64 (4 * (k : Int)) (4 * (k : Int) + 4) (4 * k) (4 * k + 4) (by omega) (by omega) (by omega) (by omega) (by omega) W
          rw [Nat.zero_add] at hsl
          go_wp2_with (go_at_call 27; refine (word_ref (w.heap.size + 1) (4 * k) _ _ (at_ nonce (4 * k)) (at_ nonce (4 * k + 1)) (at_ nonce (4 * k + 2)) (at_ nonce (4 * k + 3)) _ (by omega) (HN.out.word _ (by omega)) (HN.out.word _ (by omega)) (HN.out.word _ (by omega)) (HN.out.word _ (by omega))).mono ?_; rintro e w' ⟨rfl, rfl⟩)
          have r4 : Bk (wr.drew.setCell ⟨w.heap.size + 3, 13 + k, none⟩ (.int .u32 (nb (wordAt nonce (4 * k))))) (w.heap.size + 3) 23 (arr .u32 (stNon ((stKey key 8).set 12 c) nonce (k + 1))) := by
            rw [stNon_succ]; exact HS.out.drew.setWord _ _
          have R4 := Lib.hid r4
          clear r4 cS fS
          go_roundw
          case rel =>
            exact ⟨k + 1, by omega, by go_num, HN.out.drew.far (show w.heap.size + 1 ≠ w.heap.size + 3 by omega) _, HZ.out.drew.far (show w.heap.size + 2 ≠ w.heap.size + 3 by omega) _, R4.out,
              hB.drew.setCell (show w.heap.size ≤ w.heap.size + 3 by omega) _⟩
          case measure => simp [intOf]; omega
        · have hk' : k = 3 := by omega
          rw [hk'] at HS
          clear hk'
          go_upto_region 11 with (fail)
          have hi : (Tryd.prog.info? 23).map (·.size) = some (arr .u32 (state key c nonce)).size := by
            rw [arr_size, state_length]; kernel_rfl
          refine wp_region_lit ?_
          refine wpList_loadA (cs := arr .u32 (state key c nonce)) HS.out 23 _ rfl rfl rfl Tryd.underlying23 hi ?_
          refine wpList_storeA HZ.out 23 _ _ rfl rfl rfl rfl hi (by rw [arr_size, state_length]; rfl) (arr_one _ _) ?_
          have hz := HZ.out.setRow (arr .u32 (state key c nonce))
          have hB2 := below_row hB (show w.heap.size ≤ w.heap.size + 2 by omega) (arr .u32 (state key c nonce))
          have HZ2 := Lib.hid hz
          clear hz HZ HS HN hB
          go_wp2
          exact bodyPost_ret (results_cell_row Tryd.results21 _ _ (w.heap.size + 2) 23 _ (0, 0) _ rfl HZ2.out Tryd.underlying23 rfl hi) rfl ⟨rfl, hB2⟩
end Go.Proofs.YtbfakdpnefhgkaaDoor
