/-
  ChachaCalls: whatever the input, the law returns true, and its arguments read behind the call as they did before it.
  Conditions: none of ours; the row lists chacha.columns, which the card ties to the program's text.
-/
import Derived.Test.YtbfakdpnefhgkaaDoorCb
import Derived.Test.YtbfakdpnefhgkaaDoorOb
import Derived.Test.YtbfakdpnefhgkaaDoorLa
import Derived.ProofKit
set_option linter.unusedSimpArgs false
set_option linter.unusedVariables false
namespace Go.Proofs.YtbfakdpnefhgkaaDoor.chachaCalls
open Go.ChangeShapes Go.WideShapes Go.ChangeAt Go.RowKit Mem Bv
theorem own : ownKnob Tryd.prog.godebug = none := by kernel_rfl
theorem contract (H : Type) (enc : TypeId × Value → H) (W : World) (base : Nat) (args : Array Value) (ds gs : List (DataW H)) (before : List MemPlace)
    (hval : ∀ (j : Nat) t v, Tryd.f6.params[j]? = some t → args[j]? = some v → Value.okWide Tryd.prog W .any base t v)
    (hW : DataW.Whole enc Tryd.prog Tryd.f6.params.toList Rows.chachaCallsSpec.vars false W args.toList ds gs before) (hL : laidMetH Tryd.prog Rows.chachaCallsRow.laid W) :
    Calls Tryd.prog 6 args W fun e W' => ∃ v, e = .returned v ∧ Rows.chachaCallsSpec.post enc Tryd.prog Tryd.f6 false true false false W args v W' := by
  have hW' := hW
  obtain ⟨p, q, hA0, hV, rfl, hfz, hnd⟩ := hW
  have hA : DataW.TrodAll enc Tryd.prog W 0 (fun _ => true) true Tryd.f6.params.toList args.toList ds p := hA0
  rw [Tryd.params6] at hA hval
  obtain ⟨v0, vs0, d0, ds0, p0, q0, hargs, rfl, rfl, h0, r0⟩ := trodAll_cons hA
  obtain ⟨v1, vs1, d1, ds1, p1, q1, rfl, rfl, rfl, h1, r1⟩ := trodAll_cons r0
  obtain ⟨v2, vs2, d2, ds2, p2, q2, rfl, rfl, rfl, h2, r2⟩ := trodAll_cons r1
  obtain ⟨v3, vs3, d3, ds3, p3, q3, rfl, rfl, rfl, h3, r3⟩ := trodAll_cons r2
  obtain ⟨v4, vs4, d4, ds4, p4, q4, rfl, rfl, rfl, h4, r4⟩ := trodAll_cons r3
  obtain ⟨rfl, rfl, rfl⟩ := trodAll_nil r4
  obtain rfl : args = #[v0, v1, v2, v3, v4] := by cases args; simp_all
  obtain ⟨rfl, rfl⟩ := trodVars_none hV
  have hcol : ColsAt W := cols_of_laid hL
  obtain ⟨z0, hl0, hw0, rfl, rfl, rfl⟩ := open_nums Tryd.underlying23 Tryd.underlying22 (by kernel_rfl) (by kernel_rfl) (hval 0 23 v0 rfl rfl) h0
  obtain ⟨a0, la0, ea0⟩ := arr_of_nums32 hw0
  obtain ⟨z1, hl1, hw1, rfl, rfl, rfl⟩ := open_nums Tryd.underlying24 Tryd.underlying5 (by kernel_rfl) (by kernel_rfl) (hval 1 24 v1 rfl rfl) h1
  obtain ⟨a1, la1, ea1⟩ := arr_of_nums8 hw1
  obtain ⟨z2, rfl, rfl, rfl, hw2⟩ := open_int Tryd.underlying22 (hval 2 22 v2 rfl rfl) h2
  obtain ⟨z3, hl3, hw3, rfl, rfl, rfl⟩ := open_nums Tryd.underlying25 Tryd.underlying5 (by kernel_rfl) (by kernel_rfl) (hval 3 25 v3 rfl rfl) h3
  obtain ⟨a3, la3, ea3⟩ := arr_of_nums8 hw3
  have hB4 := Sl.open_bytesA Tryd.underlying39 Tryd.underlying5 (by kernel_rfl) (hval 4 39 v4 rfl rfl) h4
  clear hA0
  simp only [List.append_nil, List.nil_append] at hW'
  have hlt4 : ∀ x, x ∈ p4 → x.block < W.heap.size := fun x hx => hW'.lt x (by simp [hx])
  have walk := calls_any a0 a1 (BitVec.ofInt 32 z2) a3 v4 (la0.trans hl0) (la1.trans hl1) (la3.trans hl3) W hcol hB4
  rw [← ea0, ← ea1, num32 hw2, ← ea3] at walk
  refine walk.mono fun e W' ⟨he, hb⟩ => ?_
  subst he
  exact ⟨_, rfl, _, _, _, [], _, [], hW', trodAll_cons_mk (shut_bool Tryd.underlying4 _) trodAll_mk0, (trodAll_cons_mk (shut_nums Tryd.underlying23 Tryd.underlying22 (by kernel_rfl) (by kernel_rfl) hl0 hw0) (trodAll_cons_mk (shut_nums Tryd.underlying24 Tryd.underlying5 (by kernel_rfl) (by kernel_rfl) hl1 hw1) (trodAll_cons_mk (shut_int Tryd.underlying22 hw2) (trodAll_cons_mk (shut_nums Tryd.underlying25 Tryd.underlying5 (by kernel_rfl) (by kernel_rfl) hl3 hw3) (trodAll_cons_mk (WideElems.Trod_stays (P := Tryd.prog) (by kernel_rfl) (by kernel_rfl) (of_decide_eq_true (by kernel_rfl)) h4 (fun x hx => hb.same (hlt4 x hx)) (fun x hx => by simpa using hlt4 x hx)) trodAll_mk0))))), rfl, hb.frame _, fun h => by cases h⟩

/-- A world for the witness: the settled one, the table (block 0) holding what its initialiser lays. -/
noncomputable def laidWorld (os : Os) : World :=
  { World.holding Tryd.prog os ⟨#[], #[], []⟩ with heap := (World.holding Tryd.prog os ⟨#[], #[], []⟩).heap.modify 0 fun
      | .cells _ t frozen => .cells colCells t frozen
      | o => o }
theorem laid_met (os : Os) : laidMet Tryd.prog Rows.chachaCallsRow.laid ((laidWorld os).forCall (fun _ _ => 0) ⟨#[], #[.agg (arr .u32 (List.replicate 16 0#32)), .agg (arr .u8 (List.replicate 32 0#8)), .int .u32 0, .agg (arr .u8 (List.replicate 12 0#8)), .slice none 0 0], []⟩).memory :=
  laidMet_of_run' 8 (by kernel_rfl) (by kernel_rfl)
theorem reads (os : Os) {H : Type} (enc : TypeId × Value → H) : ∃ places, DataW.whole enc Tryd.prog ((laidWorld os).forCall (fun _ _ => 0) ⟨#[], #[.agg (arr .u32 (List.replicate 16 0#32)), .agg (arr .u8 (List.replicate 32 0#8)), .int .u32 0, .agg (arr .u8 (List.replicate 12 0#8)), .slice none 0 0], []⟩).memory Tryd.f6.params.toList Rows.chachaCallsSpec.vars false (#[.agg (arr .u32 (List.replicate 16 0#32)), .agg (arr .u8 (List.replicate 32 0#8)), .int .u32 0, .agg (arr .u8 (List.replicate 12 0#8)), .slice none 0 0] : Array Value).toList 8 = some ([numsD .u32 (List.replicate 16 0), numsD .u8 (List.replicate 32 0), .lit (.int .u32 0), numsD .u8 (List.replicate 12 0), .nil], [], places) :=
  ⟨[], by kernel_rfl⟩
set_option maxRecDepth 100000 in
theorem lifted (os : Os) (started : os.Started) (H : Type) (enc : TypeId × Value → H) (F : Stop.Interp) :
    ReturnsInHanded {} Tryd.checked os 6 .any ((OpenSpec.ofChange Rows.chachaCallsSpec).preRow enc Tryd.prog Tryd.f6 Rows.chachaCallsRow.domain false Rows.chachaCallsRow.laid) (((OpenSpec.ofChange Rows.chachaCallsSpec).at F).post enc Tryd.prog Tryd.f6 false true false false) := by
  obtain ⟨places, hx⟩ := reads os enc
  refine returnsInHanded_of_row (C := Tryd.checked) (s := OpenSpec.ofChange Rows.chachaCallsSpec) own started (by kernel_rfl) Tryd.func6
    (witness_row_at (enc := enc) (C := Tryd.checked) false (laidWorld os) #[.agg (arr .u32 (List.replicate 16 0#32)), .agg (arr .u8 (List.replicate 32 0#8)), .int .u32 0, .agg (arr .u8 (List.replicate 12 0#8)), .slice none 0 0] rfl (by kernel_rfl) (by kernel_rfl) (by kernel_rfl)
      (OpenSpec.preRow_of_cond 8 hx (by kernel_rfl) (fun k hk => by cases hk) (by kernel_rfl) (laid_met os))) ?_
  intro W base args ds gs before hval hW _ _ _ hL _ _
  exact contract H enc W base args ds gs before hval hW hL
theorem said : Rows.ChachaCallsSaid :=
  OpenClaim.holds_of_cond 6 Tryd.f6 rfl rfl rfl rfl rfl rfl rfl ⟨rfl, rfl, rfl, rfl, rfl⟩ rfl rfl rfl rfl rfl (by kernel_rfl) Tryd.func6 (by kernel_rfl)
    (of_decide_eq_true (by kernel_rfl)) (by unfold Func.isWrapper; first | (rw [if_pos (by decide +kernel)]; kernel_rfl) | (rw [if_neg (by decide +kernel)]; exact ⟨rfl, rfl⟩))
    (fun os started H enc _ F => by rw [OpenClaim.pre_eq_preRow]; exact lifted os started H enc F)
theorem plain (f : FuncId) (fn : Func) (hf : Tryd.pinned.checked.prog.funcNamed "drawbridge/drawbridgelaw02.ChachaCalls" = some f) (hfn : Tryd.pinned.checked.prog.funcs[f]? = some fn) :
    false = Tryd.pinned.checked.prog.looks [] ∧ ∀ (j : Nat) t, fn.params[j]? = some t → Tryd.pinned.checked.prog.wantsStandIn t = false := by
  obtain rfl : f = 6 := Option.some.inj ((show Tryd.prog.funcNamed "drawbridge/drawbridgelaw02.ChachaCalls" = some 6 by kernel_rfl).symm.trans hf) |>.symm
  obtain rfl : fn = Tryd.f6 := (Option.some.inj (Tryd.func6.symm.trans hfn)).symm
  refine ⟨by kernel_rfl, fun j t ht => ?_⟩
  rw [Tryd.params6] at ht
  have h2 : t ∈ [23, 24, 22, 25, 39] := by have h := Array.mem_of_getElem? ht; simpa only [List.mem_toArray] using h
  simp only [List.mem_cons, List.not_mem_nil, or_false] at h2
  rcases h2 with rfl | rfl | rfl | rfl | rfl
  · exact (show Tryd.prog.wantsStandIn 23 = false by kernel_rfl)
  · exact (show Tryd.prog.wantsStandIn 24 = false by kernel_rfl)
  · exact (show Tryd.prog.wantsStandIn 22 = false by kernel_rfl)
  · exact (show Tryd.prog.wantsStandIn 25 = false by kernel_rfl)
  · exact (show Tryd.prog.wantsStandIn 39 = false by kernel_rfl)
theorem card : Rows.ChachaCallsCardSaid :=
  Claim7.holds_tied_plain_at .later [] _ _ _ _ said (fun _ h => by cases h) (by kernel_rfl) (fun _ h => by cases h) chachaCalls_row_tie rfl ⟨rfl, rfl⟩ (by kernel_rfl) rfl plain (by kernel_rfl)
end Go.Proofs.YtbfakdpnefhgkaaDoor.chachaCalls
namespace Go.Proofs.YtbfakdpnefhgkaaDoor
theorem chachaCalls_holds : Rows.ChachaCallsCardSaid := chachaCalls.card
end Go.Proofs.YtbfakdpnefhgkaaDoor
