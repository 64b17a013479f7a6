/-
  The walks of the small functions of chapter 2: turns, quarters, words, Pick.
-/
import Derived.Test.YtbfakdpnefhgkaaDoorProg
import Derived.Test.YtbfakdpnefhgkaaDoorBv
import Derived.Test.YtbfakdpnefhgkaaDoorRgn
import Derived.Test.YtbfakdpnefhgkaaDoorMem
import Derived.Test.YtbfakdpnefhgkaaDoorPure
import Derived.Deep.QuietTactic
import Derived.BigQuiet
namespace Go.Proofs.YtbfakdpnefhgkaaDoor
open Go.RowKit Bv Rgn Mem
theorem left_any (x : BitVec 32) (n : Nat) (w : World) (hn : n ≤ 32) :
    Calls Tryd.prog 24 #[.int .u32 (nb x), .int .u64 n] w fun e w' => e = .returned (.int .u32 (nb (rotl x n))) ∧ w = w' := by
  have h32 : (n : Int) ≤ 32 := by omega
  go_enter Tryd.func24, Tryd.ntmps24
  go_wp2
  go_ret
  exact ⟨rfl, rfl⟩
theorem left_lit (x : BitVec 32) (n : Nat) (w : World) (hn : n ≤ 32) :
    Calls Tryd.prog 24 #[.int .u32 (nb x), .int .u64 (OfNat.ofNat n)] w fun e w' => e = .returned (.int .u32 (nb (rotl x n))) ∧ w = w' := left_any x n w hn
theorem turn_any (x : BitVec 32) (n : Nat) (w : World) (hn : n ≤ 32) :
    Calls Tryd.prog 26 #[.int .u32 (nb x), .int .u64 n] w fun e w' => e = .returned (.int .u32 (nb (rotl x n))) ∧ w = w' := by
  have h32 : (n : Int) ≤ 32 := by omega
  go_enter Tryd.func26, Tryd.ntmps26
  go_wp2
  go_ret
  exact ⟨rfl, rfl⟩
theorem turn_lit (x : BitVec 32) (n : Nat) (w : World) (hn : n ≤ 32) :
    Calls Tryd.prog 26 #[.int .u32 (nb x), .int .u64 (OfNat.ofNat n)] w fun e w' => e = .returned (.int .u32 (nb (rotl x n))) ∧ w = w' := turn_any x n w hn
/-- Four words as a result. -/
def four (r : BitVec 32 × BitVec 32 × BitVec 32 × BitVec 32) : Value := .tuple #[.int .u32 (nb r.1), .int .u32 (nb r.2.1), .int .u32 (nb r.2.2.1), .int .u32 (nb r.2.2.2)]
theorem quarter_any (a b c d : BitVec 32) (w : World) :
    Calls Tryd.prog 10 #[.int .u32 (nb a), .int .u32 (nb b), .int .u32 (nb c), .int .u32 (nb d)] w fun e w' => e = .returned (four (quarter a b c d)) ∧ w = w' := by
  go_enter Tryd.func10, Tryd.ntmps10
  go_wp2_with (go_at_call 24; refine (left_lit _ _ _ (by decide)).mono ?_; rintro e w' ⟨rfl, rfl⟩)
  exact bodyPost_ret (v := four (quarter a b c d)) (by simp [results, Tryd.results10, go_sem]; rfl) rfl ⟨rfl, rfl⟩
theorem quarter_ref (a b c d : BitVec 32) (w : World) :
    Calls Tryd.prog 17 #[.int .u32 (nb a), .int .u32 (nb b), .int .u32 (nb c), .int .u32 (nb d)] w fun e w' => e = .returned (four (quarter a b c d)) ∧ w = w' := by
  go_enter Tryd.func17, Tryd.ntmps17
  go_wp2_with (go_at_call 26; refine (turn_lit _ _ _ (by decide)).mono ?_; rintro e w' ⟨rfl, rfl⟩)
  exact bodyPost_ret (v := four (quarter a b c d)) (by simp [results, Tryd.results17, go_sem]; rfl) rfl ⟨rfl, rfl⟩
theorem undo_any (a b c d : BitVec 32) (w : World) :
    Calls Tryd.prog 11 #[.int .u32 (nb a), .int .u32 (nb b), .int .u32 (nb c), .int .u32 (nb d)] w fun e w' => e = .returned (four (unquarter a b c d)) ∧ w = w' := by
  go_enter Tryd.func11, Tryd.ntmps11
  go_wp2
  exact bodyPost_ret (v := four (unquarter a b c d)) (by simp [results, Tryd.results11, go_sem]; rfl) rfl ⟨rfl, rfl⟩
attribute [go_sem] four
theorem word_any (g off len cap : Nat) (x0 x1 x2 x3 : BitVec 8) (w : World) (hl : 4 ≤ len)
    (h0 : w.cell? ⟨g, off, none⟩ = some (.int .u8 (nb x0))) (h1 : w.cell? ⟨g, off + 1, none⟩ = some (.int .u8 (nb x1))) (h2 : w.cell? ⟨g, off + 2, none⟩ = some (.int .u8 (nb x2))) (h3 : w.cell? ⟨g, off + 3, none⟩ = some (.int .u8 (nb x3))) :
    Calls Tryd.prog 25 #[.slice (some ⟨g, off, none⟩) len cap] w fun e w' => e = .returned (.int .u32 (nb (word4 x0 x1 x2 x3))) ∧ w.drew = w' := by
  go_enter Tryd.func25, Tryd.ntmps25
  go_wp2
  refine wp_region_S (fun _ W => W = w.drew) [] [0, 1, 2, 3, 4, 5, 6, 7, 8, 9, 10, 11, 12, 13, 14, 15, 16, 17, 18, 19, 20, 21, 22] (by kernel_rfl) (by kernel_rfl) (fun _ _ _ _ => Iff.rfl) rfl ?_
  iterate 23
    apply wpS_rd (fun _ _ _ _ => Iff.rfl) rfl rfl
    · intro L' w' hS hn
      subst hS
      clear hn
      go_wp2
      exact ⟨rfl, rfl, rfl⟩
  apply wpS_nil
  intro W hW
  subst hW
  go_wp2
  go_ret
  exact ⟨rfl, rfl⟩
theorem word_ref (g off len cap : Nat) (x0 x1 x2 x3 : BitVec 8) (w : World) (hl : 4 ≤ len)
    (h0 : w.cell? ⟨g, off, none⟩ = some (.int .u8 (nb x0))) (h1 : w.cell? ⟨g, off + 1, none⟩ = some (.int .u8 (nb x1))) (h2 : w.cell? ⟨g, off + 2, none⟩ = some (.int .u8 (nb x2))) (h3 : w.cell? ⟨g, off + 3, none⟩ = some (.int .u8 (nb x3))) :
    Calls Tryd.prog 27 #[.slice (some ⟨g, off, none⟩) len cap] w fun e w' => e = .returned (.int .u32 (nb (word4 x0 x1 x2 x3))) ∧ w.drew = w' := by
  rw [← word4s_eq]
  go_enter Tryd.func27, Tryd.ntmps27
  go_wp2
  refine wp_region_S (fun _ W => W = w.drew) [] [0, 1, 2, 3, 4, 5, 6, 7, 8, 9, 10, 11, 12, 13, 14, 15, 16, 17, 18, 19, 20, 21, 22] (by kernel_rfl) (by kernel_rfl) (fun _ _ _ _ => Iff.rfl) rfl ?_
  iterate 23
    apply wpS_rd (fun _ _ _ _ => Iff.rfl) rfl rfl
    · intro L' w' hS hn
      subst hS
      clear hn
      go_wp2
      exact ⟨rfl, rfl, rfl⟩
  apply wpS_nil
  intro W hW
  subst hW
  go_wp2
  go_ret
  exact ⟨rfl, rfl⟩
/-- Pick's number. -/
def pickI (n m : Int) : Int := if m < 1 then 0 else n % m
theorem pickI_bd (n m : Int) : 0 ≤ pickI n m ∧ (0 < m → pickI n m < m) := by
  unfold pickI
  split
  · exact ⟨by omega, fun _ => by omega⟩
  · exact ⟨Int.emod_nonneg _ (by omega), fun h => Int.emod_lt_of_pos _ h⟩
theorem pick_any (n m : Int) (w : World) (_hn : -9223372036854775808 ≤ n ∧ n ≤ 9223372036854775807) (hm : -9223372036854775808 ≤ m ∧ m ≤ 9223372036854775807) :
    Calls Tryd.prog 14 #[.int .i64 n, .int .i64 m] w fun e w' => e = .returned (.int .i64 (pickI n m)) ∧ w = w' := by
  by_cases h1 : m < 1
  · have e : pickI n m = 0 := by unfold pickI; rw [if_pos h1]
    rw [e]
    go_enter Tryd.func14, Tryd.ntmps14
    go_wp2
    go_ret
    exact ⟨rfl, rfl⟩
  · have hm0 : (m == 0) = false := by rw [beq_eq_false_iff_ne]; omega
    have ht := @Int.tmod_eq_emod n m
    have h3 := Int.emod_nonneg n (show m ≠ 0 by omega)
    have h4 := Int.emod_lt_of_pos n (show 0 < m by omega)
    have h5 : ((m.natAbs : Nat) : Int) = m := by omega
    by_cases h2 : n.tmod m < 0
    · have e : pickI n m = n.tmod m + m := by
        unfold pickI; rw [if_neg h1]
        split at ht <;> omega
      have hw : wrap64 (n.tmod m + m) = n.tmod m + m := by
        rw [← e]; unfold pickI wrap64; rw [if_neg h1]; omega
      rw [e]
      clear ht h3 h4 h5 e
      have HW := Lib.hid hw
      clear hw
      go_enter Tryd.func14, Tryd.ntmps14
      go_wp2
      go_ret
      exact ⟨congrArg (fun z => Ending.returned (.int .i64 z)) HW.out, rfl⟩
    · have e : pickI n m = n.tmod m := by
        unfold pickI; rw [if_neg h1]
        split at ht <;> omega
      rw [e]
      clear ht h3 h4 h5 e
      go_enter Tryd.func14, Tryd.ntmps14
      go_wp2
      go_ret
      exact ⟨rfl, rfl⟩
end Go.Proofs.YtbfakdpnefhgkaaDoor
