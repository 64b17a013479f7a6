/-
  What the row's list gives: the program's table of columns lies in memory.
-/
import Derived.Test.YtbfakdpnefhgkaaDoorCards
import Derived.Test.YtbfakdpnefhgkaaDoorTie
import Derived.Test.YtbfakdpnefhgkaaDoorPu
import Derived.Test.YtbfakdpnefhgkaaDoorSr
import Derived.Test.YtbfakdpnefhgkaaDoorOpen
import Derived.Deep.DeepHandedRow
import Derived.SevenTiedAt
namespace Go.Proofs.YtbfakdpnefhgkaaDoor
open Go.RowKit Mem
theorem gCols : Tryd.prog.globalNamed "drawbridge/chacha.columns" = some 0 := by kernel_rfl
theorem gColsType : (Tryd.prog.globals[0]?).map (·.type) = some 31 := by kernel_rfl
theorem cells31 : Tryd.prog.cellsOf 31 = 32 := by kernel_rfl
theorem cells30 : Tryd.prog.cellsOf 30 = 4 := by kernel_rfl
theorem cells3 : Tryd.prog.cellsOf 3 = 1 := by kernel_rfl
theorem chunk {α : Type} (l : List α) (i : Nat) : l.drop (4 * i) = (l.drop (4 * i)).take 4 ++ l.drop (4 * (i + 1)) := by
  have := (List.take_append_drop 4 (l.drop (4 * i))).symm
  rw [List.drop_drop] at this
  rw [show 4 * (i + 1) = 4 * i + 4 by omega]
  exact this
theorem cols_of_laid {W : World} (h : laidMet Tryd.prog [("drawbridge/chacha.columns", Rows.laid_drawbridge_chacha_columns)] W) : ColsAt W := by
  obtain ⟨ps, ⟨g', t', cs, fuel, p, q, hg', ht', hvar, hd, _, _⟩, _⟩ := h
  obtain rfl := Option.some.inj (gCols.symm.trans hg')
  obtain rfl := Option.some.inj (gColsType.symm.trans ht')
  obtain ⟨xs, m, rfl, hx, hl, hn, hall⟩ := DataW.trod_array Tryd.underlying31 hd
  simp only [Prod.mk.injEq] at hx
  rw [cells31] at hl
  have piece : ∀ i zs, i < 8 → (xs.map (·.1))[i]? = some (Lib.tabData (H := Unit) .i64 zs) → (cs.toList.drop (4 * i)).take 4 = zs.map fun z => Value.int .i64 z := by
    intro i zs hi hz
    have h1 := hall i hi
    rw [cells30, List.getElem?_eq_getElem (by omega), Nat.mul_comm] at h1
    have h2 : xs[i].1 = Lib.tabData .i64 zs := by
      rw [List.getElem?_map, List.getElem?_eq_getElem (by omega)] at hz
      simpa using hz
    have h3 : xs[i] = (Lib.tabData .i64 zs, xs[i].2) := Prod.ext h2 rfl
    exact Lib.cells_of_tab Tryd.underlying30 Tryd.underlying3 cells3 cells30 (h1.trans (congrArg some h3))
  have e := hx.1
  unfold Rows.laid_drawbridge_chacha_columns at e
  simp only [DataW.agg.injEq] at e
  have p0 := piece 0 [0, 4, 8, 12] (by omega) (by rw [← e]; rfl)
  have p1 := piece 1 [1, 5, 9, 13] (by omega) (by rw [← e]; rfl)
  have p2 := piece 2 [2, 6, 10, 14] (by omega) (by rw [← e]; rfl)
  have p3 := piece 3 [3, 7, 11, 15] (by omega) (by rw [← e]; rfl)
  have p4 := piece 4 [0, 5, 10, 15] (by omega) (by rw [← e]; rfl)
  have p5 := piece 5 [1, 6, 11, 12] (by omega) (by rw [← e]; rfl)
  have p6 := piece 6 [2, 7, 8, 13] (by omega) (by rw [← e]; rfl)
  have p7 := piece 7 [3, 4, 9, 14] (by omega) (by rw [← e]; rfl)
  have d8 : cs.toList.drop (4 * (7 + 1)) = [] := by rw [List.drop_eq_nil_iff]; omega
  have hcs : cs.toList = colCells.toList := by
    have h0 : cs.toList = cs.toList.drop (4 * 0) := by simp
    rw [h0, chunk, p0, chunk _ 1, p1, chunk _ 2, p2, chunk _ 3, p3, chunk _ 4, p4, chunk _ 5, p5, chunk _ 6, p6, chunk _ 7, p7, d8]
    rfl
  have hcs' : cs = colCells := by
    have := congrArg List.toArray hcs
    simpa using this
  subst hcs'
  unfold World.var? at hvar
  rw [gCols] at hvar
  simp only [Option.bind_some] at hvar
  split at hvar
  · rename_i c t fr hh
    injection hvar with hc
    exact ⟨t, fr, by rw [hh, hc]⟩
  · cases hvar
theorem tab_of_cols {W : World} (h : ColsAt W) : Sl.TabAt W := by
  intro g C hg
  obtain ⟨t, fz, h0⟩ := h
  have e : (g, C) = (0, colTab) := by simpa [Sl.tabs] using hg
  injection e with e1 e2
  subst e1; subst e2
  exact ⟨t, fz, h0⟩
end Go.Proofs.YtbfakdpnefhgkaaDoor
