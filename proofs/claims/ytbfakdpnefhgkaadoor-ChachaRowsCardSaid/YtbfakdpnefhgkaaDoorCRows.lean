/-
  ChachaRows: whatever the input, the law returns true, and its arguments read behind the call as they did before it.
  Conditions: none of ours; the row lists chacha.columns, which the card ties to the program's text.
-/
import Derived.Test.YtbfakdpnefhgkaaDoorRo
import Derived.Test.YtbfakdpnefhgkaaDoorLa
import Derived.ProofKit
set_option linter.unusedSimpArgs false
set_option linter.unusedVariables false
namespace Go.Proofs.YtbfakdpnefhgkaaDoor.chachaRows
open Go.ChangeShapes Go.WideShapes Go.ChangeAt Go.RowKit Mem Bv
theorem own : ownKnob Tryd.prog.godebug = none := by kernel_rfl
theorem contract (H : Type) (enc : TypeId × Value → H) (W : World) (base : Nat) (args : Array Value) (ds gs : List (DataW H)) (before : List MemPlace)
    (hval : ∀ (j : Nat) t v, Tryd.f8.params[j]? = some t → args[j]? = some v → Value.okWide Tryd.prog W .any base t v)
    (hW : DataW.Whole enc Tryd.prog Tryd.f8.params.toList Rows.chachaRowsSpec.vars false W args.toList ds gs before) (hL : laidMetH Tryd.prog Rows.chachaRowsRow.laid W) :
    Calls Tryd.prog 8 args W fun e W' => ∃ v, e = .returned v ∧ Rows.chachaRowsSpec.post enc Tryd.prog Tryd.f8 false true false false W args v W' := by
  have hW' := hW
  obtain ⟨p, q, hA0, hV, rfl, hfz, hnd⟩ := hW
  have hA : DataW.TrodAll enc Tryd.prog W 0 (fun _ => true) true Tryd.f8.params.toList args.toList ds p := hA0
  rw [Tryd.params8] at hA hval
  obtain ⟨v0, vs0, d0, ds0, p0, q0, hargs, rfl, rfl, h0, r0⟩ := trodAll_cons hA
  obtain ⟨v1, vs1, d1, ds1, p1, q1, rfl, rfl, rfl, h1, r1⟩ := trodAll_cons r0
  obtain ⟨v2, vs2, d2, ds2, p2, q2, rfl, rfl, rfl, h2, r2⟩ := trodAll_cons r1
  obtain ⟨v3, vs3, d3, ds3, p3, q3, rfl, rfl, rfl, h3, r3⟩ := trodAll_cons r2
  obtain ⟨rfl, rfl, rfl⟩ := trodAll_nil r3
  obtain rfl : args = #[v0, v1, v2, v3] := by cases args; simp_all
  obtain ⟨rfl, rfl⟩ := trodVars_none hV
  have hcol : ColsAt W := cols_of_laid hL
  obtain ⟨z0, hl0, hw0, rfl, rfl, rfl⟩ := open_nums Tryd.underlying24 Tryd.underlying5 (by kernel_rfl) (by kernel_rfl) (hval 0 24 v0 rfl rfl) h0
  obtain ⟨a0, la0, ea0⟩ := arr_of_nums8 hw0
  obtain ⟨z1, rfl, rfl, rfl, hw1⟩ := open_int Tryd.underlying22 (hval 1 22 v1 rfl rfl) h1
  obtain ⟨z2, hl2, hw2, rfl, rfl, rfl⟩ := open_nums Tryd.underlying25 Tryd.underlying5 (by kernel_rfl) (by kernel_rfl) (hval 2 25 v2 rfl rfl) h2
  obtain ⟨a2, la2, ea2⟩ := arr_of_nums8 hw2
  obtain ⟨z3, rfl, rfl, rfl, hw3⟩ := open_int Tryd.underlying3 (hval 3 3 v3 rfl rfl) h3
  clear hA0
  simp only [List.append_nil] at hW'
  have walk := rows_any a0 (BitVec.ofInt 32 z1) a2 z3 (la0.trans hl0) (la2.trans hl2) W hcol (bd64 hw3)
  rw [← ea0, num32 hw1, ← ea2] at walk
  refine walk.mono fun e W' ⟨he, hb⟩ => ?_
  subst he
  exact ⟨_, rfl, _, _, _, [], [], [], hW', trodAll_cons_mk (shut_bool Tryd.underlying4 _) trodAll_mk0, (trodAll_cons_mk (shut_nums Tryd.underlying24 Tryd.underlying5 (by kernel_rfl) (by kernel_rfl) hl0 hw0) (trodAll_cons_mk (shut_int Tryd.underlying22 hw1) (trodAll_cons_mk (shut_nums Tryd.underlying25 Tryd.underlying5 (by kernel_rfl) (by kernel_rfl) hl2 hw2) (trodAll_cons_mk (shut_int Tryd.underlying3 hw3) trodAll_mk0)))), rfl, hb.frame _, fun h => by cases h⟩

/-- A world for the witness: the settled one, the table (block 0) holding what its initialiser lays. -/
noncomputable def laidWorld (os : Os) : World :=
  { World.holding Tryd.prog os ⟨#[], #[], []⟩ with heap := (World.holding Tryd.prog os ⟨#[], #[], []⟩).heap.modify 0 fun
      | .cells _ t frozen => .cells colCells t frozen
      | o => o }
theorem laid_met (os : Os) : laidMet Tryd.prog Rows.chachaRowsRow.laid ((laidWorld os).forCall (fun _ _ => 0) ⟨#[], #[.agg (arr .u8 (List.replicate 32 0#8)), .int .u32 0, .agg (arr .u8 (List.replicate 12 0#8)), .int .i64 0], []⟩).memory :=
  laidMet_of_run' 8 (by kernel_rfl) (by kernel_rfl)
theorem reads (os : Os) {H : Type} (enc : TypeId × Value → H) : ∃ places, DataW.whole enc Tryd.prog ((laidWorld os).forCall (fun _ _ => 0) ⟨#[], #[.agg (arr .u8 (List.replicate 32 0#8)), .int .u32 0, .agg (arr .u8 (List.replicate 12 0#8)), .int .i64 0], []⟩).memory Tryd.f8.params.toList Rows.chachaRowsSpec.vars false (#[.agg (arr .u8 (List.replicate 32 0#8)), .int .u32 0, .agg (arr .u8 (List.replicate 12 0#8)), .int .i64 0] : Array Value).toList 8 = some ([numsD .u8 (List.replicate 32 0), .lit (.int .u32 0), numsD .u8 (List.replicate 12 0), .lit (.int .i64 0)], [], places) :=
  ⟨[], by kernel_rfl⟩
set_option maxRecDepth 100000 in
theorem lifted (os : Os) (started : os.Started) (H : Type) (enc : TypeId × Value → H) (F : Stop.Interp) :
    ReturnsInHanded {} Tryd.checked os 8 .any ((OpenSpec.ofChange Rows.chachaRowsSpec).preRow enc Tryd.prog Tryd.f8 Rows.chachaRowsRow.domain false Rows.chachaRowsRow.laid) (((OpenSpec.ofChange Rows.chachaRowsSpec).at F).post enc Tryd.prog Tryd.f8 false true false false) := by
  obtain ⟨places, hx⟩ := reads os enc
  refine returnsInHanded_of_row (C := Tryd.checked) (s := OpenSpec.ofChange Rows.chachaRowsSpec) own started (by kernel_rfl) Tryd.func8
    (witness_row_at (enc := enc) (C := Tryd.checked) false (laidWorld os) #[.agg (arr .u8 (List.replicate 32 0#8)), .int .u32 0, .agg (arr .u8 (List.replicate 12 0#8)), .int .i64 0] rfl (by kernel_rfl) (by kernel_rfl) (by kernel_rfl)
      (OpenSpec.preRow_of_cond 8 hx (by kernel_rfl) (fun k hk => by cases hk) (by kernel_rfl) (laid_met os))) ?_
  intro W base args ds gs before hval hW _ _ _ hL _ _
  exact contract H enc W base args ds gs before hval hW hL
theorem said : Rows.ChachaRowsSaid :=
  OpenClaim.holds_of_cond 8 Tryd.f8 rfl rfl rfl rfl rfl rfl rfl ⟨rfl, rfl, rfl, rfl, rfl⟩ rfl rfl rfl rfl rfl (by kernel_rfl) Tryd.func8 (by kernel_rfl)
    (of_decide_eq_true (by kernel_rfl)) (by unfold Func.isWrapper; first | (rw [if_pos (by decide +kernel)]; kernel_rfl) | (rw [if_neg (by decide +kernel)]; exact ⟨rfl, rfl⟩))
    (fun os started H enc _ F => by rw [OpenClaim.pre_eq_preRow]; exact lifted os started H enc F)
theorem plain (f : FuncId) (fn : Func) (hf : Tryd.pinned.checked.prog.funcNamed "drawbridge/drawbridgelaw02.ChachaRows" = some f) (hfn : Tryd.pinned.checked.prog.funcs[f]? = some fn) :
    false = Tryd.pinned.checked.prog.looks [] ∧ ∀ (j : Nat) t, fn.params[j]? = some t → Tryd.pinned.checked.prog.wantsStandIn t = false := by
  obtain rfl : f = 8 := Option.some.inj ((show Tryd.prog.funcNamed "drawbridge/drawbridgelaw02.ChachaRows" = some 8 by kernel_rfl).symm.trans hf) |>.symm
  obtain rfl : fn = Tryd.f8 := (Option.some.inj (Tryd.func8.symm.trans hfn)).symm
  refine ⟨by kernel_rfl, fun j t ht => ?_⟩
  rw [Tryd.params8] at ht
  have h2 : t ∈ [24, 22, 25, 3] := by have h := Array.mem_of_getElem? ht; simpa only [List.mem_toArray] using h
  simp only [List.mem_cons, List.not_mem_nil, or_false] at h2
  rcases h2 with rfl | rfl | rfl | rfl
  · exact (show Tryd.prog.wantsStandIn 24 = false by kernel_rfl)
  · exact (show Tryd.prog.wantsStandIn 22 = false by kernel_rfl)
  · exact (show Tryd.prog.wantsStandIn 25 = false by kernel_rfl)
  · exact (show Tryd.prog.wantsStandIn 3 = false by kernel_rfl)
theorem card : Rows.ChachaRowsCardSaid :=
  Claim7.holds_tied_plain_at .later [] _ _ _ _ said (fun _ h => by cases h) (by kernel_rfl) (fun _ h => by cases h) chachaRows_row_tie rfl ⟨rfl, rfl⟩ (by kernel_rfl) rfl plain (by kernel_rfl)
end Go.Proofs.YtbfakdpnefhgkaaDoor.chachaRows
namespace Go.Proofs.YtbfakdpnefhgkaaDoor
theorem chachaRows_holds : Rows.ChachaRowsCardSaid := chachaRows.card
end Go.Proofs.YtbfakdpnefhgkaaDoor
