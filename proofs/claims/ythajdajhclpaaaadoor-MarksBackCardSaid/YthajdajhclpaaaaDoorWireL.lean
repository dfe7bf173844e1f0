/- Layer 1: what the writers return. -/
import Derived.Test.YthajdajhclpaaaaDoorBld
import Derived.Test.YthajdajhclpaaaaDoorCells
namespace Go.Proofs.YthajdajhclpaaaaDoor
open Go.RowKit Go.Shelf Wr

theorem encInt_len (n : Int) (hn : I64 n) : (encInt n).length ≤ 21 := by
  have := itoa_len n hn.1 hn.2
  simp [encInt]
  omega

theorem wnum_any {B : Nat} {w : World} (h : LW B w) (n : Int) (hn : I64 n) : Calls Tryd.prog 13 #[.int .i64 n] w fun e w' => e = .returned (.string ⟨(if n < 0 then [] else encInt n).toArray⟩) ∧ Fr [] w w' := by
  have H := Lib.hid h
  have Hn := Lib.hid hn
  clear h hn
  by_cases hc : n < 0
  · rw [if_pos hc]
    go_enter Tryd.func13, Tryd.ntmps13
    go_wp2
    go_ret
    exact ⟨rfl, Fr.refl _ _⟩
  · rw [if_neg hc]
    have hc' : decide (n < 0) = false := decide_eq_false hc
    go_enter Tryd.func13, Tryd.ntmps13
    go_wp2_with fail
    refine (wint_any H.out n Hn.out).mono ?_
    rintro e w1 ⟨rfl, hf⟩
    have Hf := Lib.hid hf
    clear hf
    go_wp2
    go_ret
    exact ⟨rfl, Hf.out⟩

theorem wtext_any {B : Nat} {w : World} (h : LW B w) (s : ByteArray) (hs : s.size ≤ 1099511627776) : Calls Tryd.prog 17 #[.string s] w fun e w' => e = .returned (.string ⟨(encText s.data.toList).toArray⟩) ∧ Fr [] w w' := by
  have H := Lib.hid h
  have hn : I64 (s.size : Int) := ⟨by omega, by omega⟩
  have hl := itoa_len (s.size : Int) hn.1 hn.2
  have Hn := Lib.hid hn
  have e1 : s.data.toList.length = s.size := by rw [Array.length_toList]; rfl
  have Hfin : Hid ((⟨(encText s.data.toList).toArray⟩ : ByteArray) = ⟨(Lib.itoa (s.size : Int)).toArray⟩ ++ ⟨#[58]⟩ ++ s ++ ⟨#[44]⟩) := by
    show _ = _
    unfold encText
    rw [e1, mkb_app, mkb_app, mkb_app]
  clear h hn e1
  go_enter Tryd.func17, Tryd.ntmps17
  go_wp2_with fail
  refine (itoa_any H.out (s.size : Int) Hn.out).mono ?_
  rintro e w1 ⟨rfl, hf⟩
  have Hf := Lib.hid hf
  clear hf
  go_wp2
  go_ret
  exact ⟨ret_str Hfin.out.symm, Hf.out⟩

end Go.Proofs.YthajdajhclpaaaaDoor
