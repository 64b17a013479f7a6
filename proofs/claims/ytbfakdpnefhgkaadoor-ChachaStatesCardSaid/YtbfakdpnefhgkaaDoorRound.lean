/-
  The walk of chacha.Round: eight quarters over sixteen words.
-/
import Derived.Test.YtbfakdpnefhgkaaDoorW1
import Derived.Deep.Cut
namespace Go.Proofs.YtbfakdpnefhgkaaDoor
open Go.RowKit Bv Rgn Mem
/-- the words of s while the four stores of a step come up one after the other -/
def cont (L : Array Bool) (s : List (BitVec 32)) (a b c d : Nat) (r : BitVec 32 × BitVec 32 × BitVec 32 × BitVec 32) : List (BitVec 32) :=
  let s := bif L.getD 31 false then s.set a r.1 else s
  let s := bif L.getD 33 false then s.set b r.2.1 else s
  let s := bif L.getD 35 false then s.set c r.2.2.1 else s
  bif L.getD 37 false then s.set d r.2.2.2 else s
def SR (w : World) (g : Nat) (s : List (BitVec 32)) (a b c d : Nat) (L : Array Bool) (w' : World) : Prop :=
  Bk w' g 30 #[.int .i64 a, .int .i64 b, .int .i64 c, .int .i64 d] ∧ Bk w' w.heap.size 23 (arr .u32 (cont L s a b c d (quarter (at_ s a) (at_ s b) (at_ s c) (at_ s d)))) ∧
  Bk w' (w.heap.size + 1) 23 zeros16 ∧ Below w.heap.size w w'

theorem col_at (k : Nat) (h : k < 8) : ∃ a b c d : Nat, a < 16 ∧ b < 16 ∧ c < 16 ∧ d < 16 ∧ cols[k]? = some (a, b, c, d) ∧
    ∀ w, (Instr.index 31 (.agg colCells) (.int .i64 (k : Int))).run Tryd.prog w = .ok (.agg #[.int .i64 (a : Int), .int .i64 (b : Int), .int .i64 (c : Int), .int .i64 (d : Int)]) w := by
  have hks : k = 0 ∨ k = 1 ∨ k = 2 ∨ k = 3 ∨ k = 4 ∨ k = 5 ∨ k = 6 ∨ k = 7 := by omega
  rcases hks with rfl | rfl | rfl | rfl | rfl | rfl | rfl | rfl
  · exact ⟨0, 4, 8, 12, by omega, by omega, by omega, by omega, rfl, fun _ => by kernel_rfl⟩
  · exact ⟨1, 5, 9, 13, by omega, by omega, by omega, by omega, rfl, fun _ => by kernel_rfl⟩
  · exact ⟨2, 6, 10, 14, by omega, by omega, by omega, by omega, rfl, fun _ => by kernel_rfl⟩
  · exact ⟨3, 7, 11, 15, by omega, by omega, by omega, by omega, rfl, fun _ => by kernel_rfl⟩
  · exact ⟨0, 5, 10, 15, by omega, by omega, by omega, by omega, rfl, fun _ => by kernel_rfl⟩
  · exact ⟨1, 6, 11, 12, by omega, by omega, by omega, by omega, rfl, fun _ => by kernel_rfl⟩
  · exact ⟨2, 7, 8, 13, by omega, by omega, by omega, by omega, rfl, fun _ => by kernel_rfl⟩
  · exact ⟨3, 4, 9, 14, by omega, by omega, by omega, by omega, rfl, fun _ => by kernel_rfl⟩
theorem SR_insens (w : World) (g : Nat) (s : List (BitVec 32)) (a b c d : Nat) (k : Nat) (hk : [31, 33, 35, 37].contains k = false) (L : Array Bool) (w' : World) :
    SR w g s a b c d (L.setIfInBounds k true) w' ↔ SR w g s a b c d L w' := by
  have h : cont (L.setIfInBounds k true) = cont L := by
    funext s a b c d r
    simp at hk
    unfold cont
    rw [getD_set_ne false (by omega), getD_set_ne false (by omega), getD_set_ne false (by omega), getD_set_ne false (by omega)]
  unfold SR
  rw [h]
theorem SR_early {w w' : World} {g : Nat} {s : List (BitVec 32)} {a b c d : Nat} {L : Array Bool} (h : SR w g s a b c d L w') (h1 : L.getD 31 false = false) (h2 : L.getD 33 false = false) (h3 : L.getD 35 false = false) (h4 : L.getD 37 false = false) :
    Bk w' w.heap.size 23 (arr .u32 s) := by
  have := h.2.1
  unfold cont at this
  simpa only [h1, h2, h3, h4, cond_false] using this
theorem cont_length (L : Array Bool) (s : List (BitVec 32)) (a b c d : Nat) (r) : (cont L s a b c d r).length = s.length := by
  unfold cont
  cases L.getD 31 false <;> cases L.getD 33 false <;> cases L.getD 35 false <;> cases L.getD 37 false <;> simp
theorem SR_cell {w W : World} {g : Nat} {s : List (BitVec 32)} {a b c d : Nat} {L : Array Bool} (h : SR w g s a b c d L W) (i : Nat) (hi : i < s.length) :
    ∃ v, W.cell? ⟨w.heap.size, i, none⟩ = some v ∧ W.frozen? ⟨w.heap.size, i, none⟩ = false :=
  ⟨_, h.2.1.word i (by rw [cont_length]; exact hi), h.2.1.frozen i⟩
theorem SR_store {w W : World} {g : Nat} {s : List (BitVec 32)} {a b c d : Nat} {L L' : Array Bool} (h : SR w g s a b c d L W) (hne : g ≠ w.heap.size) (i : Nat) (x : BitVec 32)
    (hc : cont L' s a b c d (quarter (at_ s a) (at_ s b) (at_ s c) (at_ s d)) = (cont L s a b c d (quarter (at_ s a) (at_ s b) (at_ s c) (at_ s d))).set i x) :
    SR w g s a b c d L' (W.setCell ⟨w.heap.size, i, none⟩ (.int .u32 (nb x))) := by
  refine ⟨h.1.far hne _, ?_, h.2.2.1.far (show w.heap.size + 1 ≠ w.heap.size by omega) _, h.2.2.2.setCell (by simp) _⟩
  rw [hc]
  exact h.2.1.setWord i x
set_option maxHeartbeats 4000000 in
theorem round_any (s : List (BitVec 32)) (hs : s.length = 16) (w : World) (hc : ColsAt w) :
    Calls Tryd.prog 12 #[.agg (arr .u32 s)] w fun e w' => e = .returned (.agg (arr .u32 (roundTo 8 s))) ∧ Below w.heap.size w w' := by
  obtain ⟨t, fr, hg⟩ := hc
  have hlt : 0 < w.heap.size := (Array.getElem?_eq_some_iff.1 hg).1
  have hg2 : ∀ o o' : Obj, ((w.alloc o).alloc o').heap[0]? = some (.cells colCells t fr) := fun o o' =>
    (heap_lt (by simp)).trans ((heap_lt hlt).trans hg)
  have HG := Lib.hid hg2
  clear hg2 hg
  go_enter Tryd.func12, Tryd.ntmps12
  go_wp2_with (refine wpList_load_row rfl 31 _ rfl 0 rfl t colCells fr _ (HG.out _ _) Tryd.underlying31 rfl (by kernel_rfl) ?_)
  go_loopw [6] (fun i wr => ∃ k : Nat, k ≤ 8 ∧ i = .int .i64 k ∧ Bk wr w.heap.size 23 (arr .u32 (roundTo k s)) ∧ Bk wr (w.heap.size + 1) 23 zeros16 ∧ Below w.heap.size w wr)
    (fun i _ => 8 - (intOf i).toNat)
  case atStart => exact ⟨0, by omega, rfl, (Bk.new _ _ _).alloc _, Bk.new2 _ _ _ _, ((Below.refl _ _).alloc (by simp) _).alloc (by simp) _⟩
  case round =>
    obtain ⟨k, hk, rfl, hb, hz, hB⟩ := hrel
    have hl := roundTo_length k s
    rw [hs] at hl
    obtain ⟨S, hS⟩ : ∃ S, S = roundTo k s := ⟨_, rfl⟩
    rw [← hS] at hl hb
    have hbl := hb.lt
    have hzl := hz.lt
    have HS := Lib.hid hS
    have HL := Lib.hid hl
    have HB := Lib.hid hb
    have HZ := Lib.hid hz
    clear hl hb hz hS
    by_cases hlt : k < 8
    · obtain ⟨a, b, c, d, ha, hb, hc, hd, hcol, hix⟩ := col_at k hlt
      have HC := Lib.hid hcol
      clear hcol
      go_wp2
      refine wp_region_S (SR w wr.heap.size S a b c d) [31, 33, 35, 37] [0, 1, 2, 3, 4, 5, 6, 7, 8, 9, 10, 11, 12, 13, 14, 15, 16, 17, 18, 19, 20, 21, 22, 23, 24, 25, 26, 27, 28, 29, 30, 31, 32, 33, 34, 35, 36, 37] (by kernel_rfl) (by kernel_rfl) (SR_insens w wr.heap.size S a b c d) ?_ ?_
      · refine ⟨Bk.new wr 30 _, ?_, ?_, ?_⟩
        · exact (HB.out.alloc _)
        · exact (HZ.out.alloc _)
        · exact (hB.alloc (by omega) _).drew
      · clear HB HZ hB
        iterate 31
          apply wpS_rd (SR_insens w wr.heap.size S a b c d) rfl rfl
          · intro L' w' hS hn
            have q0 : w'.cell? ⟨wr.heap.size, 0, none⟩ = some (.int .i64 a) := hS.1.cell 0
            have q1 : w'.cell? ⟨wr.heap.size, 1, none⟩ = some (.int .i64 b) := hS.1.cell 1
            have q2 : w'.cell? ⟨wr.heap.size, 2, none⟩ = some (.int .i64 c) := hS.1.cell 2
            have q3 : w'.cell? ⟨wr.heap.size, 3, none⟩ = some (.int .i64 d) := hS.1.cell 3
            first
              | (have hE := SR_early hS (hn.not_up (by decide +kernel)) (hn.not_up (by decide +kernel)) (hn.not_up (by decide +kernel)) (hn.not_up (by decide +kernel))
                 have s0 := hE.word a (by rw [HL.out]; exact ha)
                 have s1 := hE.word b (by rw [HL.out]; exact hb)
                 have s2 := hE.word c (by rw [HL.out]; exact hc)
                 have s3 := hE.word d (by rw [HL.out]; exact hd)
                 clear hE)
              | skip
            clear hS hn
            go_wp2_with (go_at_call 10; refine (quarter_any _ _ _ _ _).mono ?_; rintro e w' ⟨rfl, rfl⟩)
            exact ⟨rfl, rfl, rfl⟩
        iterate 4
          try
            apply wpS_rd (SR_insens w wr.heap.size S a b c d) rfl rfl
            · intro L' w' hS hn
              clear hS hn
              go_wp2
              exact ⟨rfl, rfl, rfl⟩
          apply wpS_eff rfl rfl
          intro W hS K hK
          obtain ⟨va, ca, fa⟩ := SR_cell hS a (by rw [HL.out]; exact ha)
          obtain ⟨vb, cb, fb⟩ := SR_cell hS b (by rw [HL.out]; exact hb)
          obtain ⟨vc, cc, fc⟩ := SR_cell hS c (by rw [HL.out]; exact hc)
          obtain ⟨vd, cd, fd⟩ := SR_cell hS d (by rw [HL.out]; exact hd)
          have HSS := Lib.hid hS
          clear hS
          go_wp2
          refine hK _ _ ⟨SR_store HSS.out (by omega) _ _ (by kernel_rfl), ?_⟩
          clear hK HSS fa fb fc fd ca cb cc cd
        apply wpS_nil
        intro W hS
        have h2 : Bk W w.heap.size 23 (arr .u32 (roundTo (k + 1) s)) := by
          rw [roundTo_succ k s _ HC.out, ← HS.out]
          refine cast ?_ hS.2.1
          kernel_rfl
        have h3 := hS.2.2.1
        have h4 := hS.2.2.2
        clear hS HC
        have H2 := Lib.hid h2
        have H3 := Lib.hid h3
        clear h2 h3
        go_wp2
        go_roundw
        case rel => exact ⟨k + 1, by omega, by go_num, H2.out, H3.out, h4⟩
        case measure => simp [intOf]; omega
    · have hk8 : k = 8 := by omega
      subst hk8
      rw [HS.out] at HB
      go_upto_region 6 with (fail)
      have hi : (Tryd.prog.info? 23).map (·.size) = some (arr .u32 (roundTo 8 s)).size := by
        rw [arr_size, roundTo_length, hs]; kernel_rfl
      refine wp_region_lit ?_
      refine wpList_loadA HB.out 23 _ rfl rfl rfl Tryd.underlying23 hi ?_
      refine wpList_storeA HZ.out 23 _ _ rfl rfl rfl rfl hi (by rw [arr_size, roundTo_length, hs]; rfl) (arr_one _ _) ?_
      have hz := HZ.out.setRow (arr .u32 (roundTo 8 s))
      have hB2 := below_row hB (show w.heap.size ≤ w.heap.size + 1 by omega) (arr .u32 (roundTo 8 s))
      have HZ2 := Lib.hid hz
      clear hz HB HZ hB
      go_wp2
      exact bodyPost_ret (results_cell_row Tryd.results12 _ _ (w.heap.size + 1) 23 _ (0, 0) _ rfl HZ2.out Tryd.underlying23 rfl hi) rfl ⟨rfl, hB2⟩
end Go.Proofs.YtbfakdpnefhgkaaDoor
