/-
  Strings out of bytes in memory; results that lie in two cells. Plain lemmas, over any program.
-/
import Derived.Test.YtbfakdpnefhgkaaDoorMem
import Derived.Laws.BytesArg
set_option linter.unusedSimpArgs false
set_option linter.unusedVariables false
namespace Go.Proofs.YtbfakdpnefhgkaaDoor.Mem
open Go Go.RowKit
/-- The string of some bytes. -/
def str (l : List (BitVec 8)) : ByteArray := strOfNums (l.map Bv.nb)
theorem getD_nb {n : Nat} (l : List (BitVec n)) (i : Nat) : (l.map Bv.nb).getD i 0 = Bv.nb (at_ l i) := by
  simp only [at_, List.getD_eq_getElem?_getD, List.getElem?_map]
  cases l[i]? <;> simp [Bv.nb]
section
variable {P : Program}
/-- The world forgotten, but for S, ahead of a piece of code. -/
theorem forgetC {c : Code} {Q : Exit → Act → World → Prop} {a : Act} {w : World} (S : World → Prop) (h : S w) (h2 : ∀ W, S W → c.wp P Q a W) : c.wp P Q a w := h2 w h
theorem run_str {src e dst : TypeId} (hs : P.underlying src = some (.slice e)) (he : P.underlying e = some (.int .u8)) (hd : P.underlying dst = some .string) (g off cap : Nat) (l : List (BitVec 8)) (W : World)
    (hc : ∀ i, i < l.length → W.cell? ⟨g, off + i, none⟩ = some (.int .u8 (Bv.nb (at_ l i)))) :
    (convert src dst (.slice (some ⟨g, off, none⟩) l.length cap)).run P W = .ok (.string (str l)) W :=
  run_convert_bytes_arg W src e hs he g off l.length cap (l.map Bv.nb) (by simp) (fun i hi => by rw [hc i hi, getD_nb]) dst hd
theorem results_cell2 {fn : Func} {p q : Tmp} {t u : TypeId} (h : fn.results = #[.cell p t, .cell q u]) (tmps : Array Value) (w : World) (g g' : Nat) (e e' : TypeId) (cs cs' : Array Value) (d d' : TypeDesc)
    (hp : tmps.getD p undef = .pointer (some ⟨g, 0, none⟩)) (hq : tmps.getD q undef = .pointer (some ⟨g', 0, none⟩)) (hb : Bk w g e cs) (hb' : Bk w g' e' cs')
    (hu : P.underlying t = some d) (hd : (match d with | .struct _ | .array _ _ => true | _ => false) = true) (hi : (P.info? t).map (·.size) = some cs.size)
    (hu' : P.underlying u = some d') (hd' : (match d' with | .struct _ | .array _ _ => true | _ => false) = true) (hi' : (P.info? u).map (·.size) = some cs'.size) :
    (results fn tmps).run P w = .ok (.tuple #[.agg cs, .agg cs']) w := by
  have hp' : tmps[p]?.getD undef = .pointer (some ⟨g, 0, none⟩) := by simpa using hp
  have hq' : tmps[q]?.getD undef = .pointer (some ⟨g', 0, none⟩) := by simpa using hq
  simp [results, h, hp', hq', asAddr, run_loadVar_row w g e t cs (0, 0) d hb hu hd hi, run_loadVar_row w g' e' u cs' (0, 0) d' hb' hu' hd' hi']
end
end Go.Proofs.YtbfakdpnefhgkaaDoor.Mem
