/- What the listed variables give the walks; the door's own heap meets the condition. -/
import Derived.Test.YthajdajhclpaaaaDoorRows
import Derived.Test.YthajdajhclpaaaaDoorWireW
import Derived.LaidMore
import Derived.MakeChecks
import Derived.LaidLaws
import Derived.Stop.LaidErr
import Derived.Lib.LaidTab
namespace Go.Proofs.YthajdajhclpaaaaDoor
open Go.RowKit Go.Shelf Wr

abbrev laid5 : List (String × DataW Unit) := [("math/bits.deBruijn32tab", Rows.laid_math_bits_deBruijn32tab), ("math/bits.deBruijn64tab", Rows.laid_math_bits_deBruijn64tab), ("internal/strconv.uint64pow10", Rows.laid_internal_strconv_uint64pow10), ("strconv.ErrRange", Rows.laid_strconv_ErrRange), ("strconv.ErrSyntax", Rows.laid_strconv_ErrSyntax)]
theorem star_es : "*" ++ "errors.errorString" = "*errors.errorString" := by decide
theorem row_es (u : TypeId) (h : Tryd.prog.typeName? 3 u = some "*errors.errorString") : u = 150 :=
  typeName_ptr_named (nm := "errors.errorString") (by rw [star_es]; kernel_rfl) (by kernel_rfl) (by decide) u (by rw [star_es]; exact h)
theorem tab_es : (Rows.laid_internal_strconv_uint64pow10 : DataW Unit) = Lib.tabData .u64 Lib.pow10Tab := by first | rfl | kernel_rfl
theorem es_cells : Tryd.prog.cellsOf 152 = 1 := by kernel_rfl
theorem str_cells : Tryd.prog.cellsOf 9 = 1 := by kernel_rfl
theorem gSynT : (Tryd.prog.globals[2]?).map (·.type) = some 101 := by kernel_rfl
theorem gRngT : (Tryd.prog.globals[3]?).map (·.type) = some 101 := by kernel_rfl
theorem gTabT : (Tryd.prog.globals[0]?).map (·.type) = some 139 := by kernel_rfl
theorem var_lt {w : World} {n : String} {g : Nat} {cs : Array Value} (hg : Tryd.prog.globalNamed n = some g) (h : w.var? Tryd.prog n = some cs) : g < w.heap.size := by
  rcases Nat.lt_or_ge g w.heap.size with hlt | hge
  · exact hlt
  · simp only [World.var?, hg, Option.bind_some, Array.getElem?_eq_none hge] at h
    cases h
theorem lw_of_laid {W : World} (h : laidMetH Tryd.prog laid5 W) : LW W.heap.size W := by
  rw [MakeChecks.laidMetH_plain _ _ _ (by kernel_rfl)] at h
  have h3 := h.tail.tail
  rw [tab_es] at h3
  have htab : Lib.TabIs Tryd.prog W "internal/strconv.uint64pow10" .u64 Lib.pow10Tab := Lib.tabIs_of_head gTab gTabT Tryd.underlying139 Tryd.underlying120 (by kernel_rfl) (by kernel_rfl) h3
  obtain ⟨a1, s1, hr, -, -, -⟩ := laid_sentinel h3.tail gRng gRngT Tryd.underlying101 row_es Tryd.underlying150 Tryd.underlying152 rfl rfl Tryd.underlying9 es_cells str_cells
  obtain ⟨a2, s2, hs, -, -, -⟩ := laid_sentinel h3.tail.tail gSyn gSynT Tryd.underlying101 row_es Tryd.underlying150 Tryd.underlying152 rfl rfl Tryd.underlying9 es_cells str_cells
  exact ⟨htab, ⟨_, _, hs⟩, ⟨_, _, hr⟩, ⟨var_lt gTab htab, var_lt gSyn hs, var_lt gRng hr⟩, Nat.le_refl _⟩

/-- The door's own heap meets the condition. -/
theorem door_met (os : Os) (args : Array Value) : laidMetH Tryd.prog laid5 ((World.doorLaid Tryd.prog 1000 os).forCall (fun _ _ => 0) ⟨#[], args, []⟩).memory :=
  laidMetH_of_parts3 (fuel := 8) (laidMet_of_run' 8 (by kernel_rfl) (by kernel_rfl)) (by kernel_rfl) (by kernel_rfl)

end Go.Proofs.YthajdajhclpaaaaDoor
