/- Layer 1: the laid variables; a Builder; Int, Num, Text. -/
import Derived.Test.YthajdajhclpaaaaDoorMem
import Derived.Test.YthajdajhclpaaaaDoorChecked
import Derived.Test.YthajdajhclpaaaaDoorWireRd
import Derived.Test.YthajdajhclpaaaaDoorShelf
import Derived.Deep.LoopGhost
import Derived.WalkLawsBesides
import Derived.WalkSpells
namespace Go.Proofs.YthajdajhclpaaaaDoor
open Go.RowKit Go.Shelf Wr

/-! ### The listed variables -/
theorem gTab : Tryd.prog.globalNamed "internal/strconv.uint64pow10" = some 0 := by kernel_rfl
theorem gSyn : Tryd.prog.globalNamed "strconv.ErrSyntax" = some 2 := by kernel_rfl
theorem gRng : Tryd.prog.globalNamed "strconv.ErrRange" = some 3 := by kernel_rfl
/-- Below B the listed variables read as their initialisers lay them. -/
structure LW (B : Nat) (w : World) : Prop where
  tab : Lib.TabIs Tryd.prog w "internal/strconv.uint64pow10" .u64 Lib.pow10Tab
  syn : ∃ tp p, w.var? Tryd.prog "strconv.ErrSyntax" = some #[.iface tp p]
  rng : ∃ tp p, w.var? Tryd.prog "strconv.ErrRange" = some #[.iface tp p]
  below : 0 < B ∧ 2 < B ∧ 3 < B
  le : B ≤ w.heap.size
theorem var_of_block {w w' : World} {n : String} {g : Nat} (hg : Tryd.prog.globalNamed n = some g) (hb : w'.heap[g]? = w.heap[g]?) : w'.var? Tryd.prog n = w.var? Tryd.prog n := by
  simp only [World.var?, hg, Option.bind_some, hb]
theorem LW.fr {B : Nat} {w w' : World} {S : List Nat} (h : LW B w) (hf : Fr S w w') (hS : ∀ k, k ∈ S → B ≤ k) : LW B w' := by
  have hb : ∀ g, g < B → w'.heap[g]? = w.heap[g]? := fun g hg => hf.block g (by have := h.le; omega) (fun hin => by have := hS g hin; omega)
  refine ⟨?_, ?_, ?_, h.below, Nat.le_trans h.le hf.size⟩
  · unfold Lib.TabIs
    rw [var_of_block gTab (hb _ h.below.1)]
    exact h.tab
  · rw [var_of_block gSyn (hb _ h.below.2.1)]
    exact h.syn
  · rw [var_of_block gRng (hb _ h.below.2.2)]
    exact h.rng
theorem LW.quiet {B : Nat} {w w' : World} (h : LW B w) (hf : Fr [] w w') : LW B w' := h.fr hf (fun k hk => by cases hk)

theorem fr_grow (w : World) (os : Array Obj) : Fr [] w (Sort.grow w os) :=
  ⟨rfl, rfl, rfl, by simp [Sort.grow], fun k hk _ => by simp [Sort.grow, Array.getElem?_append_left hk]⟩
theorem fr_below {w w' : World} (h : Below w.heap.size w w') : Fr [] w w' := ⟨h.os, h.tape, h.output, h.size, fun k hk _ => h.block k hk⟩

/-! ### Itoa, Int, Num, Text -/
theorem itoa_any {B : Nat} {w : World} (h : LW B w) (n : Int) (hn : I64 n) : Calls Tryd.prog 62 #[.int .i64 n] w fun e w' => e = .returned (.string ⟨(Lib.itoa n).toArray⟩) ∧ Fr [] w w' :=
  (Tryd.strconv_Itoa n hn.1 hn.2 w h.tab).mono fun e w' ⟨h1, k, os, h2⟩ => ⟨h1, by rw [h2]; exact ((Fr.refl [] w).drewN k).trans (fr_grow _ _)⟩

theorem mkb_app (x y : List UInt8) : (⟨(x ++ y).toArray⟩ : ByteArray) = ⟨x.toArray⟩ ++ ⟨y.toArray⟩ := (ByteArray.mk_append_mk x y).symm
theorem ret_str {a b : ByteArray} (h : a = b) : Ending.returned (.string a) = .returned (.string b) := by rw [h]
theorem wint_any {B : Nat} {w : World} (h : LW B w) (n : Int) (hn : I64 n) : Calls Tryd.prog 15 #[.int .i64 n] w fun e w' => e = .returned (.string ⟨(encInt n).toArray⟩) ∧ Fr [] w w' := by
  have H := Lib.hid h
  have Hn := Lib.hid hn
  have hl := itoa_len n hn.1 hn.2
  clear h hn
  go_enter Tryd.func15, Tryd.ntmps15
  go_wp2_with fail
  refine (itoa_any H.out n Hn.out).mono ?_
  rintro e w1 ⟨rfl, hf⟩
  have Hf := Lib.hid hf
  clear hf

  go_wp2
  go_ret
  exact ⟨ret_str (by rw [encInt, mkb_app]), Hf.out⟩

end Go.Proofs.YthajdajhclpaaaaDoor
