/-
  The walk of ChachaStates: it returns true.
-/
import Derived.Test.YtbfakdpnefhgkaaDoorAlive
import Derived.Test.YtbfakdpnefhgkaaDoorPStates
namespace Go.Proofs.YtbfakdpnefhgkaaDoor
open Go.RowKit Bv Rgn Mem
theorem pick_nat (n : Int) (m : Nat) (hm : 0 < m) : ∃ k : Nat, pickI n m = k ∧ k < m := by
  have h := pickI_bd n m
  have h2 := h.2 (by omega)
  exact ⟨(pickI n m).toNat, by omega, by omega⟩
set_option maxHeartbeats 1600000 in
set_option maxRecDepth 100000 in
theorem states_any (key nonce : List (BitVec 8)) (c : BitVec 32) (at' : Int) (y : BitVec 8) (hk : key.length = 32) (hn : nonce.length = 12) (w : World) (hc : ColsAt w) (hat : -9223372036854775808 ≤ at' ∧ at' ≤ 9223372036854775807) :
    Calls Tryd.prog 4 #[.agg (arr .u8 key), .int .u32 (nb c), .agg (arr .u8 nonce), .int .i64 at', .int .u8 (nb y)] w fun e w' => e = .returned (.bool true) ∧ Below w.heap.size w w' := by
  obtain ⟨m, hm, hm32⟩ := pick_nat at' 32 (by omega)
  obtain ⟨n, hn', hn12⟩ := pick_nat at' 12 (by omega)
  have p32 := fun W => pick_any at' 32 W hat (by omega)
  have p12 := fun W => pick_any at' 12 W hat (by omega)
  rw [show ((32 : Nat) : Int) = 32 from rfl] at hm
  rw [show ((12 : Nat) : Int) = 12 from rfl] at hn'
  rw [hm] at p32
  rw [hn'] at p12
  have P32 := Lib.hid p32
  have P12 := Lib.hid p12
  have h0 := hc.lt
  have HC := Lib.hid hc
  have HK := Lib.hid hk
  have HN := Lib.hid hn
  clear p32 p12 hm hn' hc hk hn
  go_enter Tryd.func4, Tryd.ntmps4
  go_upto_region 4 with (first
    | (go_at_call 9; refine (lives_any _ ((HC.out.keep (((Below.refl w.heap.size w).alloc (by simp) _).alloc (by simp) _) h0))).mono ?_; rintro e w1 ⟨rfl, hb1⟩)
    | (go_at_call 14; refine (P32.out _).mono ?_; rintro e w' ⟨rfl, rfl⟩))
  have hz1 := hb1.size
  simp only [size_alloc] at hz1
  have hB1 : Below w.heap.size w w1 := (((Below.refl w.heap.size w).alloc (by simp) _).alloc (by simp) _).trans (hb1.mono (by simp only [size_alloc]; omega))
  have bK1 : Bk w1 w.heap.size 24 (arr .u8 key) := ((Bk.new _ _ _).alloc _).below hb1 (by simp only [size_alloc]; omega)
  have bN1 : Bk w1 (w.heap.size + 1) 25 (arr .u8 nonce) := (Bk.new2 _ _ _ _).below hb1 (by simp only [size_alloc]; omega)
  have K1 := Lib.hid bK1
  have N1 := Lib.hid bN1
  clear bK1 bN1 hb1
  refine wp_region_lit ?_
  refine wpList_loadA K1.out 24 _ rfl rfl rfl Tryd.underlying24 (sizeKey HK.out) ?_
  go_upto_region 5 with (first
    | (go_at_call 13; refine (state_any _ _ _ HK.out HN.out _).mono ?_; rintro e w2 ⟨rfl, hb2⟩)
    | ((with_reducible show wpList _ _ _ (⟨some 24, _, _, _, _, _⟩ :: _) _ _); refine wpList_loadA N1.out 25 _ rfl rfl rfl Tryd.underlying25 (sizeNonce HN.out) ?_)
    | ((with_reducible show wpList _ _ _ (⟨none, .store 23 _ _, _, _, _, _⟩ :: _) _ _); refine wpList_storeA (Bk.new _ _ _) 23 _ _ rfl rfl rfl rfl (sizeWords (state_length _ _ _)) (zerosSize (state_length _ _ _)) (arr_one _ _) ?_))
  have hz2 := hb2.size
  refine forgetC (fun W => Bk W w.heap.size 24 (arr .u8 key) ∧ Bk W (w.heap.size + 1) 25 (arr .u8 nonce) ∧ Bk W w2.heap.size 23 (arr .u32 (state key c nonce)) ∧ Below w.heap.size w W)
    ⟨((K1.out.below hb2 (by omega)).alloc _).farRow (by omega) _, ((N1.out.below hb2 (by omega)).alloc _).farRow (by omega) _, (Bk.new _ _ _).setRow _, below_row ((hB1.trans (hb2.mono (by omega))).alloc (by omega) _) (by omega) _⟩ ?_
  rintro W ⟨bK, bN, bA, hB⟩
  clear K1 N1 hb2 hB1
  have cm := bK.word m (by rw [HK.out]; omega)
  have fm := bK.frozen m
  have K2 := Lib.hid bK
  have N2 := Lib.hid bN
  have A2 := Lib.hid bA
  have hB2 := Lib.hid hB
  clear bK bN bA hB
  go_upto_region 6 with (fail)
  obtain ⟨key', hkey'⟩ : ∃ key', key' = key.set m (at_ key m ^^^ y) := ⟨_, rfl⟩
  have hk' : key'.length = 32 := by rw [hkey', List.length_set]; exact HK.out
  refine forgetC (fun W => Bk W w.heap.size 24 (arr .u8 key') ∧ Bk W (w.heap.size + 1) 25 (arr .u8 nonce) ∧ Bk W w2.heap.size 23 (arr .u32 (state key c nonce)) ∧ Below w.heap.size w W)
    ⟨(by rw [hkey']; exact K2.out.setWord m _), N2.out.far (show w.heap.size + 1 ≠ w.heap.size by omega) _, A2.out.far (show w2.heap.size ≠ w.heap.size by omega) _, hB2.out.setCell (Nat.le_refl _) _⟩ ?_
  have a2 := A2.out.lt
  rintro W3 ⟨bK, bN, bA, hB⟩
  have HK' := Lib.hid hk'
  have KEY' := Lib.hid hkey'
  clear K2 N2 A2 hB2 cm fm hk' hkey'
  have l3 := bA.lt
  have K3 := Lib.hid bK
  have N3 := Lib.hid bN
  have A3 := Lib.hid bA
  have hB3 := Lib.hid hB
  clear bK bN bA hB
  refine wp_region_lit ?_
  refine wpList_loadA K3.out 24 _ rfl rfl rfl Tryd.underlying24 (sizeKey HK'.out) ?_
  go_upto_region 7 with (first
    | (go_at_call 13; refine (state_any _ _ _ HK'.out HN.out _).mono ?_; rintro e w4 ⟨rfl, hb4⟩)
    | ((with_reducible show wpList _ _ _ (⟨some 35, _, _, _, _, _⟩ :: _) _ _); refine wpList_loadA N3.out 25 _ rfl rfl rfl Tryd.underlying25 (sizeNonce HN.out) ?_)
    | ((with_reducible show wpList _ _ _ (⟨none, .store 23 _ _, _, _, _, _⟩ :: _) _ _); refine wpList_storeA (Bk.new _ _ _) 23 _ _ rfl rfl rfl rfl (sizeWords (state_length _ _ _)) (zerosSize (state_length _ _ _)) (arr_one _ _) ?_))
  have hz4 := hb4.size
  refine forgetC (fun W => Bk W w.heap.size 24 (arr .u8 key') ∧ Bk W (w.heap.size + 1) 25 (arr .u8 nonce) ∧ Bk W w2.heap.size 23 (arr .u32 (state key c nonce)) ∧ Bk W w4.heap.size 23 (arr .u32 (state key' c nonce)) ∧ Below w.heap.size w W)
    ⟨((K3.out.below hb4 (by omega)).alloc _).farRow (by omega) _, ((N3.out.below hb4 (by omega)).alloc _).farRow (by omega) _, ((A3.out.below hb4 (by omega)).alloc _).farRow (by omega) _, (Bk.new _ _ _).setRow _, below_row ((hB3.out.trans (hb4.mono (by omega))).alloc (by omega) _) (by omega) _⟩ ?_
  clear K3 N3 A3 hB3 hb4 a2
  rintro W5 ⟨bK, bN, bA, bB, hB⟩
  have K5 := Lib.hid bK
  have N5 := Lib.hid bN
  have A5 := Lib.hid bA
  have B5 := Lib.hid bB
  clear bK bN bA bB
  obtain ⟨SA, hSA⟩ : ∃ SA, SA = state key c nonce := ⟨_, rfl⟩
  obtain ⟨SB, hSB⟩ : ∃ SB, SB = state key' c nonce := ⟨_, rfl⟩
  rw [← hSA] at A5
  rw [← hSB] at B5
  have lA : SA.length = 16 := by rw [hSA]; exact state_length _ _ _
  have lB : SB.length = 16 := by rw [hSB]; exact state_length _ _ _
  have hpure : ∀ i, i < 16 → at_ SA i ^^^ at_ SB i = if i = 4 + m / 4 then byteAt y (m % 4) else 0 := by
    rw [hSA, hSB, KEY'.out]
    exact fun i hi => states_key key nonce c m y hm32 HK.out i hi
  have HP := Lib.hid hpure
  have LA := Lib.hid lA
  have LB := Lib.hid lB
  have HSA := Lib.hid hSA
  have HSB := Lib.hid hSB
  clear hpure lA lB hSA hSB
  go_wp2
  go_loopw [14] (fun i wr => ∃ k : Nat, k ≤ 16 ∧ i = .int .i64 k ∧ Bk wr w.heap.size 24 (arr .u8 key') ∧ Bk wr (w.heap.size + 1) 25 (arr .u8 nonce) ∧ Bk wr w2.heap.size 23 (arr .u32 SA) ∧ Bk wr w4.heap.size 23 (arr .u32 SB) ∧ Below w.heap.size w wr)
    (fun i _ => 16 - (intOf i).toNat)
  case atStart => exact ⟨0, by omega, rfl, K5.out, N5.out, A5.out, B5.out, hB⟩
  case round =>
    clear K5 N5 A5 B5 hB
    obtain ⟨k, hk, rfl, bK, bN, bA, bB, hB⟩ := hrel
    have l4 := bB.lt
    have K5 := Lib.hid bK
    have N5 := Lib.hid bN
    have A5 := Lib.hid bA
    have B5 := Lib.hid bB
    clear bK bN bA bB
    by_cases hlt : k < 16
    · have hp := HP.out k hlt
      by_cases hi : k = 4 + m / 4
      · have hge : (0 : Int) ≤ 8 * ((m : Int) % 4) := by omega
        have ht : ((k : Int) == 4 + (m : Int) / 4) = true := by rw [beq_iff_eq]; omega
        have hx : (at_ SA k ^^^ at_ SB k != y.setWidth 32 <<< (8 * (m % 4))) = false := by rw [hp, if_pos hi]; simp [byteAt]
        have HX := Lib.hid hx
        have cA := A5.out.word k (by rw [LA.out]; exact hlt)
        have cB := B5.out.word k (by rw [LB.out]; exact hlt)
        clear hp hx hi
        go_upto_region 13 with (fail)
        refine wp_region_S (fun _ W => W = wr.drew) [] [0, 1, 2, 3, 4, 5, 6, 7, 8] (by kernel_rfl) (by kernel_rfl) (fun _ _ _ _ => Iff.rfl) rfl ?_
        iterate 8
          apply wpS_rd (fun _ _ _ _ => Iff.rfl) rfl rfl
          · intro L' w' hS hn
            subst hS
            clear hn
            go_wp2
            exact ⟨rfl, rfl, rfl⟩
        have hx := HX.out
        apply wpS_rd (fun _ _ _ _ => Iff.rfl) rfl rfl
        · intro L' w' hS hn
          subst hS
          clear hn
          go_wp2
          exact ⟨rfl, rfl, rfl⟩
        clear hx
        apply wpS_nil
        intro W hW
        subst hW
        clear cA cB ht HX
        go_wp2
        go_roundw
        case rel => exact ⟨k + 1, by omega, by go_num, K5.out.drew, N5.out.drew, A5.out.drew, B5.out.drew, hB.drew⟩
        case measure => simp [intOf]; omega
      · have ht : ((k : Int) == 4 + (m : Int) / 4) = false := by rw [beq_eq_false_iff_ne]; omega
        have hx : (nb (at_ SA k ^^^ at_ SB k) != 0) = false := by rw [hp, if_neg hi]; rfl
        have HX := Lib.hid hx
        have cA := A5.out.word k (by rw [LA.out]; exact hlt)
        have cB := B5.out.word k (by rw [LB.out]; exact hlt)
        clear hp hx hi
        go_upto_region 13 with (fail)
        refine wp_region_S (fun _ W => W = wr.drew) [] [0, 1, 2, 3, 4, 5, 6, 7, 8] (by kernel_rfl) (by kernel_rfl) (fun _ _ _ _ => Iff.rfl) rfl ?_
        iterate 8
          apply wpS_rd (fun _ _ _ _ => Iff.rfl) rfl rfl
          · intro L' w' hS hn
            subst hS
            clear hn
            go_wp2
            exact ⟨rfl, rfl, rfl⟩
        have hx := HX.out
        apply wpS_rd (fun _ _ _ _ => Iff.rfl) rfl rfl
        · intro L' w' hS hn
          subst hS
          clear hn
          go_wp2
          exact ⟨rfl, rfl, rfl⟩
        clear hx
        apply wpS_nil
        intro W hW
        subst hW
        clear cA cB ht HX
        go_wp2
        go_roundw
        case rel => exact ⟨k + 1, by omega, by go_num, K5.out.drew, N5.out.drew, A5.out.drew, B5.out.drew, hB.drew⟩
        case measure => simp [intOf]; omega
    · have cn := N5.out.word n (by rw [HN.out]; omega)
      have fn := N5.out.frozen n
      go_upto_region 17 with (go_at_call 14; refine (P12.out _).mono ?_; rintro e w' ⟨rfl, rfl⟩)
      obtain ⟨nonce', hnon'⟩ : ∃ nonce', nonce' = nonce.set n (at_ nonce n ^^^ y) := ⟨_, rfl⟩
      have hn' : nonce'.length = 12 := by rw [hnon', List.length_set]; exact HN.out
      refine forgetC (fun W => Bk W w.heap.size 24 (arr .u8 key') ∧ Bk W (w.heap.size + 1) 25 (arr .u8 nonce') ∧ Bk W w2.heap.size 23 (arr .u32 SA) ∧ Bk W w4.heap.size 23 (arr .u32 SB) ∧ Below w.heap.size w W)
        ⟨K5.out.far (show w.heap.size ≠ w.heap.size + 1 by omega) _, (by rw [hnon']; exact N5.out.setWord n _), A5.out.far (show w2.heap.size ≠ w.heap.size + 1 by omega) _, B5.out.far (show w4.heap.size ≠ w.heap.size + 1 by omega) _, hB.setCell (show w.heap.size ≤ w.heap.size + 1 by omega) _⟩ ?_
      clear K5 N5 A5 B5 hB cn fn
      rintro W6 ⟨bK, bN, bA, bB, hB⟩
      have l6 := bB.lt
      have HN' := Lib.hid hn'
      have NON' := Lib.hid hnon'
      have K6 := Lib.hid bK
      have N6 := Lib.hid bN
      have A6 := Lib.hid bA
      have B6 := Lib.hid bB
      have hB6 := Lib.hid hB
      clear bK bN bA bB hB hn' hnon'
      refine wp_region_lit ?_
      refine wpList_loadA K6.out 24 _ rfl rfl rfl Tryd.underlying24 (sizeKey HK'.out) ?_
      go_upto_region 18 with (first
        | (go_at_call 13; refine (state_any _ _ _ HK'.out HN'.out _).mono ?_; rintro e w7 ⟨rfl, hb7⟩)
        | ((with_reducible show wpList _ _ _ (⟨some 73, _, _, _, _, _⟩ :: _) _ _); refine wpList_loadA N6.out 25 _ rfl rfl rfl Tryd.underlying25 (sizeNonce HN'.out) ?_)
        | ((with_reducible show wpList _ _ _ (⟨none, .store 23 _ _, _, _, _, _⟩ :: _) _ _); refine wpList_storeA (Bk.new _ _ _) 23 _ _ rfl rfl rfl rfl (sizeWords (state_length _ _ _)) (zerosSize (state_length _ _ _)) (arr_one _ _) ?_))
      have hz7 := hb7.size
      refine forgetC (fun W => Bk W w2.heap.size 23 (arr .u32 SA) ∧ Bk W w4.heap.size 23 (arr .u32 SB) ∧ Bk W w7.heap.size 23 (arr .u32 (state key' c nonce')) ∧ Below w.heap.size w W)
        ⟨((A6.out.below hb7 (by omega)).alloc _).farRow (by omega) _, ((B6.out.below hb7 (by omega)).alloc _).farRow (by omega) _, (Bk.new _ _ _).setRow _, below_row ((hB6.out.trans (hb7.mono (by omega))).alloc (by omega) _) (by omega) _⟩ ?_
      clear K6 N6 A6 B6 hB6 hb7
      rintro W8 ⟨bA, bB, bC, hB⟩
      obtain ⟨SC, hSC⟩ : ∃ SC, SC = state key' c nonce' := ⟨_, rfl⟩
      rw [← hSC] at bC
      have lC : SC.length = 16 := by rw [hSC]; exact state_length _ _ _
      have e12 : (at_ SA 12 == c) = true := by rw [HSA.out, state_eq]; exact beq_self_eq_true c
      have e0 : (nb (at_ SA 0) == 1634760805) = true := by rw [HSA.out, state_eq]; rfl
      have e1 : (nb (at_ SA 1) == 857760878) = true := by rw [HSA.out, state_eq]; rfl
      have e2 : (nb (at_ SA 2) == 2036477234) = true := by rw [HSA.out, state_eq]; rfl
      have e3 : (nb (at_ SA 3) == 1797285236) = true := by rw [HSA.out, state_eq]; rfl
      have en : (at_ SC (13 + n / 4) ^^^ at_ SB (13 + n / 4) == y.setWidth 32 <<< (8 * (n % 4))) = true := by
        rw [hSC, HSB.out, NON'.out, states_nonce key' nonce c n y hn12 HN.out]; simp [byteAt]
      have cA0 := bA.word 0 (by rw [LA.out]; omega)
      have cA1 := bA.word 1 (by rw [LA.out]; omega)
      have cA2 := bA.word 2 (by rw [LA.out]; omega)
      have cA3 := bA.word 3 (by rw [LA.out]; omega)
      have cA12 := bA.word 12 (by rw [LA.out]; omega)
      have cB := bB.word (13 + n / 4) (by rw [LB.out]; omega)
      have cC := bC.word (13 + n / 4) (by rw [lC]; omega)
      have hge : (0 : Int) ≤ 8 * ((n : Int) % 4) := by omega
      clear bA bB bC hSC lC
      have hB8 := Lib.hid hB
      clear hB
      refine wp_region_S (fun _ W => W = W8.drew) [] [0, 1, 2, 3, 4, 5, 6, 7, 8, 9, 10, 11, 12, 13, 14, 15, 16, 17, 18, 19, 20, 21, 22, 23, 24, 25, 26, 27, 28, 29, 30, 31, 32, 33, 34, 35, 36, 37, 38, 39, 40, 41, 42, 43, 44, 45] (by kernel_rfl) (by kernel_rfl) (fun _ _ _ _ => Iff.rfl) rfl ?_
      iterate 46
        apply wpS_rd (fun _ _ _ _ => Iff.rfl) rfl rfl
        · intro L' w' hS hn
          subst hS
          clear hn
          go_wp2
          exact ⟨rfl, rfl, rfl⟩
      apply wpS_nil
      intro W hW
      subst hW
      clear e12 e0 e1 e2 e3 en cA0 cA1 cA2 cA3 cA12 cB cC
      go_wp2
      go_ret
      exact ⟨rfl, hB8.out.drew⟩
end Go.Proofs.YtbfakdpnefhgkaaDoor
