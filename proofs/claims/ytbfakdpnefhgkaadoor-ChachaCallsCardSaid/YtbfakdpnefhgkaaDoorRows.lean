/-
  NARROWER THAN 'FOR EVERY INPUT', by the rows' own cells (each row's printed sentence says how): ChachaTurns: laid · ChachaStates: laid · ChachaNames: laid · ChachaCalls: laid · ChachaBack: laid · ChachaRows: laid.
  DERIVED. THE GIVEN ROWS OF THIS SEAT. 6 by the template 'for every input the law returns true; each argument reads behind the call as it read before'; 0 by the template 'total and deterministic' (their statements: YtbfakdpnefhgkaaDoorTotals.lean).
  GIVEN WITH THE SEED: the statements are not yours to turn. If you find one false, say at which input.
  Laid BY PROGRAM, IN A SANDBOX (cutbox-rows.mjs): the forced cells as the released guide's own fill.sh prints them over the translation 7d3ee81039436f25… (all of the seat's roots in one cut). By AI agents, Wed Nov 11 2026. No macro, syntax, notation, axiom, sorry.
-/
import Derived.Test.YtbfakdpnefhgkaaDoorChecked
import GoSem.Claim
import GoSem.ClaimJoined
import GoSem.ClaimMapViews
import Derived.JoinedTies
import Derived.KernelRfl
namespace Go.Proofs.YtbfakdpnefhgkaaDoor
/- THE CELL 'sum', in the pinned program and in every row, IS THE sha256 OF THE DUMP (.gsa) THAT YtbfakdpnefhgkaaDoorProg.lean LOADS. Nothing in Lean hashes anything: it is a label: what it is worth is what the hold of that sum in a sandbox is worth. -/
noncomputable def Tryd.pinned : Pinned := { name := "ytbfakdpnefhgkaadoor", sum := "7d3ee81039436f25687de0e900ab7ab154ccf4b631210f2bb41236d4f7551dd6", checked := Tryd.checked }
namespace Rows
def none {H : Type} : Left H := { results := [], args := [] }

/- WHAT THE LISTED PACKAGE-LEVEL VARIABLES READ AS WHEN THE CALL BEGINS. Each datum BY PROGRAM (the guide's laid-datum.mjs) off the statement by which the dump's own 'gosem.cut.vars' lays the variable. In a bare row this is a premise. The card (YtbfakdpnefhgkaaDoorCards.lean) ties it to the program's text. -/
def laid_drawbridge_chacha_columns {H : Type} : DataW H := .agg [.agg [.lit (.int .i64 0), .lit (.int .i64 4), .lit (.int .i64 8), .lit (.int .i64 12)], .agg [.lit (.int .i64 1), .lit (.int .i64 5), .lit (.int .i64 9), .lit (.int .i64 13)], .agg [.lit (.int .i64 2), .lit (.int .i64 6), .lit (.int .i64 10), .lit (.int .i64 14)], .agg [.lit (.int .i64 3), .lit (.int .i64 7), .lit (.int .i64 11), .lit (.int .i64 15)], .agg [.lit (.int .i64 0), .lit (.int .i64 5), .lit (.int .i64 10), .lit (.int .i64 15)], .agg [.lit (.int .i64 1), .lit (.int .i64 6), .lit (.int .i64 11), .lit (.int .i64 12)], .agg [.lit (.int .i64 2), .lit (.int .i64 7), .lit (.int .i64 8), .lit (.int .i64 13)], .agg [.lit (.int .i64 3), .lit (.int .i64 4), .lit (.int .i64 9), .lit (.int .i64 14)]]

/-- 'drawbridgelaw02.ChachaTurns': WHATEVER THE INPUT: true; the input reads as it did. -/
def chachaTurnsSpec : ChangeSpec := { name := "chachaTurns", fn := fun _ => fun
  | [d1, d2, d3, d4, d5] => { results := [.lit (.bool true)], args := [d1, d2, d3, d4, d5] }
  | _ => none }
def chachaTurnsRow : OpenClaim := { program := "ytbfakdpnefhgkaadoor", sum := "7d3ee81039436f25687de0e900ab7ab154ccf4b631210f2bb41236d4f7551dd6", func := "drawbridge/drawbridgelaw02.ChachaTurns", spec := "chachaTurns", named := ["drawbridge/chacha.columns"], apart := false, laid := [("drawbridge/chacha.columns", laid_drawbridge_chacha_columns)] }
def ChachaTurnsSaid : Prop := chachaTurnsRow.holds Tryd.pinned (OpenSpec.ofChange chachaTurnsSpec)

/-- ITS FALSE NEIGHBOUR: 'it returns false'. Refute it at one input. -/
def chachaTurnsWrong : ChangeSpec := { name := "chachaTurns", fn := fun _ => fun
  | [d1, d2, d3, d4, d5] => { results := [.lit (.bool false)], args := [d1, d2, d3, d4, d5] }
  | _ => none }
def ChachaTurnsWrongFalsely : Prop := chachaTurnsRow.holds Tryd.pinned (OpenSpec.ofChange chachaTurnsWrong)

/-- 'drawbridgelaw02.ChachaStates': WHATEVER THE INPUT: true; the input reads as it did. -/
def chachaStatesSpec : ChangeSpec := { name := "chachaStates", fn := fun _ => fun
  | [d1, d2, d3, d4, d5] => { results := [.lit (.bool true)], args := [d1, d2, d3, d4, d5] }
  | _ => none }
def chachaStatesRow : OpenClaim := { program := "ytbfakdpnefhgkaadoor", sum := "7d3ee81039436f25687de0e900ab7ab154ccf4b631210f2bb41236d4f7551dd6", func := "drawbridge/drawbridgelaw02.ChachaStates", spec := "chachaStates", named := ["drawbridge/chacha.columns"], apart := false, laid := [("drawbridge/chacha.columns", laid_drawbridge_chacha_columns)] }
def ChachaStatesSaid : Prop := chachaStatesRow.holds Tryd.pinned (OpenSpec.ofChange chachaStatesSpec)

/-- ITS FALSE NEIGHBOUR: 'it returns false'. Refute it at one input. -/
def chachaStatesWrong : ChangeSpec := { name := "chachaStates", fn := fun _ => fun
  | [d1, d2, d3, d4, d5] => { results := [.lit (.bool false)], args := [d1, d2, d3, d4, d5] }
  | _ => none }
def ChachaStatesWrongFalsely : Prop := chachaStatesRow.holds Tryd.pinned (OpenSpec.ofChange chachaStatesWrong)

/-- 'drawbridgelaw02.ChachaNames': WHATEVER THE INPUT: true; the input reads as it did. -/
def chachaNamesSpec : ChangeSpec := { name := "chachaNames", fn := fun _ => fun
  | [] => { results := [.lit (.bool true)], args := [] }
  | _ => none }
def chachaNamesRow : OpenClaim := { program := "ytbfakdpnefhgkaadoor", sum := "7d3ee81039436f25687de0e900ab7ab154ccf4b631210f2bb41236d4f7551dd6", func := "drawbridge/drawbridgelaw02.ChachaNames", spec := "chachaNames", named := ["drawbridge/chacha.columns"], apart := false, laid := [("drawbridge/chacha.columns", laid_drawbridge_chacha_columns)] }
def ChachaNamesSaid : Prop := chachaNamesRow.holds Tryd.pinned (OpenSpec.ofChange chachaNamesSpec)

/-- ITS FALSE NEIGHBOUR: 'it returns false'. Refute it at one input. -/
def chachaNamesWrong : ChangeSpec := { name := "chachaNames", fn := fun _ => fun
  | [] => { results := [.lit (.bool false)], args := [] }
  | _ => none }
def ChachaNamesWrongFalsely : Prop := chachaNamesRow.holds Tryd.pinned (OpenSpec.ofChange chachaNamesWrong)

/-- 'drawbridgelaw02.ChachaCalls': WHATEVER THE INPUT: true; the input reads as it did. -/
def chachaCallsSpec : ChangeSpec := { name := "chachaCalls", fn := fun _ => fun
  | [d1, d2, d3, d4, d5] => { results := [.lit (.bool true)], args := [d1, d2, d3, d4, d5] }
  | _ => none }
def chachaCallsRow : OpenClaim := { program := "ytbfakdpnefhgkaadoor", sum := "7d3ee81039436f25687de0e900ab7ab154ccf4b631210f2bb41236d4f7551dd6", func := "drawbridge/drawbridgelaw02.ChachaCalls", spec := "chachaCalls", named := ["drawbridge/chacha.columns"], apart := false, laid := [("drawbridge/chacha.columns", laid_drawbridge_chacha_columns)] }
def ChachaCallsSaid : Prop := chachaCallsRow.holds Tryd.pinned (OpenSpec.ofChange chachaCallsSpec)

/-- ITS FALSE NEIGHBOUR: 'it returns false'. Refute it at one input. -/
def chachaCallsWrong : ChangeSpec := { name := "chachaCalls", fn := fun _ => fun
  | [d1, d2, d3, d4, d5] => { results := [.lit (.bool false)], args := [d1, d2, d3, d4, d5] }
  | _ => none }
def ChachaCallsWrongFalsely : Prop := chachaCallsRow.holds Tryd.pinned (OpenSpec.ofChange chachaCallsWrong)

/-- 'drawbridgelaw02.ChachaBack': WHATEVER THE INPUT: true; the input reads as it did. -/
def chachaBackSpec : ChangeSpec := { name := "chachaBack", fn := fun _ => fun
  | [d1, d2, d3, d4, d5] => { results := [.lit (.bool true)], args := [d1, d2, d3, d4, d5] }
  | _ => none }
def chachaBackRow : OpenClaim := { program := "ytbfakdpnefhgkaadoor", sum := "7d3ee81039436f25687de0e900ab7ab154ccf4b631210f2bb41236d4f7551dd6", func := "drawbridge/drawbridgelaw02.ChachaBack", spec := "chachaBack", named := ["drawbridge/chacha.columns"], apart := false, laid := [("drawbridge/chacha.columns", laid_drawbridge_chacha_columns)] }
def ChachaBackSaid : Prop := chachaBackRow.holds Tryd.pinned (OpenSpec.ofChange chachaBackSpec)

/-- ITS FALSE NEIGHBOUR: 'it returns false'. Refute it at one input. -/
def chachaBackWrong : ChangeSpec := { name := "chachaBack", fn := fun _ => fun
  | [d1, d2, d3, d4, d5] => { results := [.lit (.bool false)], args := [d1, d2, d3, d4, d5] }
  | _ => none }
def ChachaBackWrongFalsely : Prop := chachaBackRow.holds Tryd.pinned (OpenSpec.ofChange chachaBackWrong)

/-- 'drawbridgelaw02.ChachaRows': WHATEVER THE INPUT: true; the input reads as it did. -/
def chachaRowsSpec : ChangeSpec := { name := "chachaRows", fn := fun _ => fun
  | [d1, d2, d3, d4] => { results := [.lit (.bool true)], args := [d1, d2, d3, d4] }
  | _ => none }
def chachaRowsRow : OpenClaim := { program := "ytbfakdpnefhgkaadoor", sum := "7d3ee81039436f25687de0e900ab7ab154ccf4b631210f2bb41236d4f7551dd6", func := "drawbridge/drawbridgelaw02.ChachaRows", spec := "chachaRows", named := ["drawbridge/chacha.columns"], apart := false, laid := [("drawbridge/chacha.columns", laid_drawbridge_chacha_columns)] }
def ChachaRowsSaid : Prop := chachaRowsRow.holds Tryd.pinned (OpenSpec.ofChange chachaRowsSpec)

/-- ITS FALSE NEIGHBOUR: 'it returns false'. Refute it at one input. -/
def chachaRowsWrong : ChangeSpec := { name := "chachaRows", fn := fun _ => fun
  | [d1, d2, d3, d4] => { results := [.lit (.bool false)], args := [d1, d2, d3, d4] }
  | _ => none }
def ChachaRowsWrongFalsely : Prop := chachaRowsRow.holds Tryd.pinned (OpenSpec.ofChange chachaRowsWrong)

/- THE SECOND FORM. 'bulk': how many values and letters a reading holds, each counted each time it is reached (what is shared counts as often as it is met; a slice's spare places count too). A statement '..UptoSaid' is the law's where the arguments, and the package variables that the reading takes, are together of bulk at most 1048576: NARROWER than '..Said'. Prove '..Said' where nothing that the law and all that it calls make is longer than what came in: it says more and counts as full. Else prove '..UptoSaid'. A law counts once. -/
mutual
def uptoBulk {H : Type} : DataW H → Nat
  | .lit (.string bytes) => bytes.length + 1
  | .lit _ => 1
  | .nil => 1
  | .ptr d => uptoBulk d + 1
  | .slice elems spare => uptoBulkAll elems + uptoBulkAll spare + 1
  | .agg parts => uptoBulkAll parts + 1
  | .iface _ d => uptoBulk d + 1
  | .map entries => uptoBulkEntries entries + 1
  | .held _ => 1
def uptoBulkAll {H : Type} : List (DataW H) → Nat
  | [] => 0
  | d :: r => uptoBulk d + uptoBulkAll r
def uptoBulkEntries {H : Type} : List (Lit × DataW H) → Nat
  | [] => 0
  | x :: r => uptoBulkEntry x + uptoBulkEntries r
def uptoBulkEntry {H : Type} : Lit × DataW H → Nat
  | (.string bytes, d) => bytes.length + uptoBulk d + 1
  | (_, d) => uptoBulk d + 1
 end
def uptoSmall : (H : Type) → List (DataW H) → Bool := fun _ ds => decide (uptoBulkAll ds ≤ 1048576)
def OpenSpec.upto (s : _root_.Go.ChangeSpec) : _root_.Go.OpenSpec := { _root_.Go.OpenSpec.ofChange s with cond := some uptoSmall }

/-- 'drawbridgelaw02.ChachaTurns', WHERE WHAT IT READS IS OF BULK AT MOST 1048576: true; the input reads as it did. -/
def chachaTurnsUptoRow : OpenClaim := { program := "ytbfakdpnefhgkaadoor", sum := "7d3ee81039436f25687de0e900ab7ab154ccf4b631210f2bb41236d4f7551dd6", func := "drawbridge/drawbridgelaw02.ChachaTurns", spec := "chachaTurns", named := ["drawbridge/chacha.columns"], apart := false, laid := [("drawbridge/chacha.columns", laid_drawbridge_chacha_columns)], narrowed := true }
def ChachaTurnsUptoSaid : Prop := chachaTurnsUptoRow.holds Tryd.pinned (OpenSpec.upto chachaTurnsSpec)

/-- 'drawbridgelaw02.ChachaStates', WHERE WHAT IT READS IS OF BULK AT MOST 1048576: true; the input reads as it did. -/
def chachaStatesUptoRow : OpenClaim := { program := "ytbfakdpnefhgkaadoor", sum := "7d3ee81039436f25687de0e900ab7ab154ccf4b631210f2bb41236d4f7551dd6", func := "drawbridge/drawbridgelaw02.ChachaStates", spec := "chachaStates", named := ["drawbridge/chacha.columns"], apart := false, laid := [("drawbridge/chacha.columns", laid_drawbridge_chacha_columns)], narrowed := true }
def ChachaStatesUptoSaid : Prop := chachaStatesUptoRow.holds Tryd.pinned (OpenSpec.upto chachaStatesSpec)

/-- 'drawbridgelaw02.ChachaNames', WHERE WHAT IT READS IS OF BULK AT MOST 1048576: true; the input reads as it did. -/
def chachaNamesUptoRow : OpenClaim := { program := "ytbfakdpnefhgkaadoor", sum := "7d3ee81039436f25687de0e900ab7ab154ccf4b631210f2bb41236d4f7551dd6", func := "drawbridge/drawbridgelaw02.ChachaNames", spec := "chachaNames", named := ["drawbridge/chacha.columns"], apart := false, laid := [("drawbridge/chacha.columns", laid_drawbridge_chacha_columns)], narrowed := true }
def ChachaNamesUptoSaid : Prop := chachaNamesUptoRow.holds Tryd.pinned (OpenSpec.upto chachaNamesSpec)

/-- 'drawbridgelaw02.ChachaCalls', WHERE WHAT IT READS IS OF BULK AT MOST 1048576: true; the input reads as it did. -/
def chachaCallsUptoRow : OpenClaim := { program := "ytbfakdpnefhgkaadoor", sum := "7d3ee81039436f25687de0e900ab7ab154ccf4b631210f2bb41236d4f7551dd6", func := "drawbridge/drawbridgelaw02.ChachaCalls", spec := "chachaCalls", named := ["drawbridge/chacha.columns"], apart := false, laid := [("drawbridge/chacha.columns", laid_drawbridge_chacha_columns)], narrowed := true }
def ChachaCallsUptoSaid : Prop := chachaCallsUptoRow.holds Tryd.pinned (OpenSpec.upto chachaCallsSpec)

/-- 'drawbridgelaw02.ChachaBack', WHERE WHAT IT READS IS OF BULK AT MOST 1048576: true; the input reads as it did. -/
def chachaBackUptoRow : OpenClaim := { program := "ytbfakdpnefhgkaadoor", sum := "7d3ee81039436f25687de0e900ab7ab154ccf4b631210f2bb41236d4f7551dd6", func := "drawbridge/drawbridgelaw02.ChachaBack", spec := "chachaBack", named := ["drawbridge/chacha.columns"], apart := false, laid := [("drawbridge/chacha.columns", laid_drawbridge_chacha_columns)], narrowed := true }
def ChachaBackUptoSaid : Prop := chachaBackUptoRow.holds Tryd.pinned (OpenSpec.upto chachaBackSpec)

/-- 'drawbridgelaw02.ChachaRows', WHERE WHAT IT READS IS OF BULK AT MOST 1048576: true; the input reads as it did. -/
def chachaRowsUptoRow : OpenClaim := { program := "ytbfakdpnefhgkaadoor", sum := "7d3ee81039436f25687de0e900ab7ab154ccf4b631210f2bb41236d4f7551dd6", func := "drawbridge/drawbridgelaw02.ChachaRows", spec := "chachaRows", named := ["drawbridge/chacha.columns"], apart := false, laid := [("drawbridge/chacha.columns", laid_drawbridge_chacha_columns)], narrowed := true }
def ChachaRowsUptoSaid : Prop := chachaRowsUptoRow.holds Tryd.pinned (OpenSpec.upto chachaRowsSpec)

end Rows
end Go.Proofs.YtbfakdpnefhgkaaDoor
