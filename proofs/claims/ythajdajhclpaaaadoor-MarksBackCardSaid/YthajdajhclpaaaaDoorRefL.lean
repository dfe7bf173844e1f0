/- The reference of layer 1: Nums, Texts. (Printed by genxlist.py.) -/
import Derived.Test.YthajdajhclpaaaaDoorRefD
import Derived.Test.YthajdajhclpaaaaDoorWireL2
namespace Go.Proofs.YthajdajhclpaaaaDoor
open Go.RowKit Go.Shelf Wr

theorem size_l0 (l : List UInt8) : (⟨l.toArray⟩ : ByteArray).size = l.length := by rw [ByteArray.size_mk', List.size_toArray]
theorem flat_take1 {α : Type} (f : α → List UInt8) (l : List α) (i : Nat) (x : α) (h : l[i]? = some x) : ((l.take (i + 1)).map f).flatten = ((l.take i).map f).flatten ++ f x := by
  obtain ⟨hi, hx⟩ := List.getElem?_eq_some_iff.1 h
  rw [List.take_succ_eq_append_getElem hi, hx, List.map_append, List.flatten_append]
  simp
theorem flat_le {α : Type} (f : α → List UInt8) (l : List α) (i : Nat) : (((l.take i).map f).flatten).length ≤ ((l.map f).flatten).length := by
  conv => rhs; rw [← List.take_append_drop i l]
  rw [List.map_append, List.flatten_append, List.length_append]
  omega
theorem encList_dec (l : List (List UInt8)) : encList l = Lib.decDigits l.length ++ [91] ++ l.flatten ++ [93] := by
  unfold encList Lib.itoa
  rw [if_neg (by omega), Int.toNat_natCast]

set_option maxRecDepth 100000 in
theorem xnums_any {w : World} {v : Value} (xs : List (Int)) (hx : ∀ x, x ∈ xs → I64 x) (hl : xs.length ≤ 1000000) (htot : ((xs.map encInt).flatten).length ≤ 1000000000) {B0 : Nat} (hv : SL B0 w v xs.length (xs.map (Value.int .i64))) :
    Calls Tryd.prog 20 #[v] w fun e w' => e = .returned (.string ⟨(encList (xs.map encInt)).toArray⟩) ∧ Fr [] w w' := by
  obtain ⟨A, c, rfl, _, hA⟩ := hv
  have HA := Lib.hid hA
  have HX := Lib.hid hx
  have He := Lib.hid (encList_dec (xs.map encInt))
  have hdl := dec_len 18 xs.length (by omega)
  have Hd := Lib.hid (rdigits_any xs.length xs.length w (Nat.le_refl _) (by omega))
  have hml : (xs.map encInt).length = xs.length := List.length_map ..
  rw [hml] at He
  clear hA hx hml
  obtain ⟨hd, hhd⟩ : ∃ hd, hd = Lib.decDigits xs.length := ⟨_, rfl⟩
  rw [← hhd] at He Hd hdl
  clear hhd
  have hsd := size_l0 hd
  have Hap0 := Lib.hid (mkb_app hd [91])
  go_enter Tryd.func20, Tryd.ntmps20
  go_wp2_with fail
  refine Hd.out.mono ?_
  rintro e w1 ⟨rfl, hf1⟩
  have Hf1 := Lib.hid hf1
  clear hf1
  go_wp2
  go_loopg [3, 4] xs.length (fun gk v3 v4 wr => ∃ i : Nat, v4 = .int .i64 i ∧ v3 = .string ⟨(hd ++ [91] ++ ((xs.take i).map encInt).flatten).toArray⟩ ∧ i ≤ xs.length ∧ gk = xs.length - i ∧ Fr [] w wr)
  case atStart => exact ⟨0, rfl, by rw [List.take_zero, List.map_nil, List.flatten_nil, List.append_nil, Hap0.out], Nat.zero_le _, rfl, Hf1.out⟩
  case round =>
    obtain ⟨i, rfl, rfl, hi, rfl, hb⟩ := hrel
    have Hb := Lib.hid hb
    clear hb
    have hfl := flat_le encInt xs i
    by_cases hlt : i < xs.length
    · obtain ⟨b, off, rfl, _, hca⟩ := HA.out (by omega)
      obtain ⟨x, hxi⟩ : ∃ x, xs[i]? = some x := ⟨_, List.getElem?_eq_getElem hlt⟩
      have hcell : (xs.map (Value.int .i64))[i]? = some ((Value.int .i64) x) := by rw [List.getElem?_map, hxi]; rfl
      have c0 : wr.cell? ⟨b, off + i, none⟩ = some ((Value.int .i64) x) := (hca.of_block Hb.out.size (Hb.out.block _ hca.1 (by simp))).2 i _ hcell
      have Hmem := Lib.hid (List.mem_of_getElem? hxi)
      have Hnx := Lib.hid (flat_take1 encInt xs i x hxi)
      have hfl2 := flat_le encInt xs (i + 1)
      rw [Hnx.out, List.length_append] at hfl2
      clear hca hcell hxi
      obtain ⟨acc, hacc⟩ : ∃ acc, acc = hd ++ [91] ++ ((xs.take i).map encInt).flatten := ⟨_, rfl⟩
      have hal : acc.length ≤ 1000000030 := by rw [hacc, List.length_append, List.length_append]; simp only [List.length_cons, List.length_nil]; omega
      have Hacc := Lib.hid hacc
      rw [← hacc]
      clear hacc hfl
      have hsa := size_l0 acc
      have hse := size_l0 (encInt x)
      have Hap := Lib.hid (mkb_app acc (encInt x))
      go_wp2_with fail
      refine (xint_any x (HX.out x Hmem.out) _).mono ?_
      rintro e w2 ⟨rfl, hf2⟩
      have Hf2 := Lib.hid (Hb.out.trans hf2)
      clear hf2
      go_wp2
      go_roundg (xs.length - (i + 1))
      case measure => omega
      case rel => exact ⟨i + 1, by go_num, by rw [Hnx.out, ← List.append_assoc, ← Hacc.out, ← Hap.out], by omega, rfl, Hf2.out⟩
    · have hii : i = xs.length := by omega
      subst hii
      rw [List.take_length] at hfl ⊢
      obtain ⟨acc, hacc⟩ : ∃ acc, acc = hd ++ [91] ++ (xs.map encInt).flatten := ⟨_, rfl⟩
      have hal : acc.length ≤ 1000000030 := by rw [hacc, List.length_append, List.length_append]; simp only [List.length_cons, List.length_nil]; omega
      have Hacc := Lib.hid hacc
      rw [← hacc]
      clear hacc hfl
      have hsa := size_l0 acc
      have Hap := Lib.hid (mkb_app acc [93])
      go_wp2
      go_ret
      exact ⟨ret_str (by rw [He.out, ← Hacc.out, Hap.out]), Hb.out⟩

set_option maxRecDepth 100000 in
theorem xtexts_any {w : World} {v : Value} (xs : List (List UInt8)) (hx : ∀ x, x ∈ xs → x.length ≤ 1000000000) (hl : xs.length ≤ 1000000) (htot : ((xs.map encText).flatten).length ≤ 1000000000) {B0 : Nat} (hv : SL B0 w v xs.length (xs.map bsv)) :
    Calls Tryd.prog 22 #[v] w fun e w' => e = .returned (.string ⟨(encList (xs.map encText)).toArray⟩) ∧ Fr [] w w' := by
  obtain ⟨A, c, rfl, _, hA⟩ := hv
  have HA := Lib.hid hA
  have HX := Lib.hid hx
  have He := Lib.hid (encList_dec (xs.map encText))
  have hdl := dec_len 18 xs.length (by omega)
  have Hd := Lib.hid (rdigits_any xs.length xs.length w (Nat.le_refl _) (by omega))
  have hml : (xs.map encText).length = xs.length := List.length_map ..
  rw [hml] at He
  clear hA hx hml
  obtain ⟨hd, hhd⟩ : ∃ hd, hd = Lib.decDigits xs.length := ⟨_, rfl⟩
  rw [← hhd] at He Hd hdl
  clear hhd
  have hsd := size_l0 hd
  have Hap0 := Lib.hid (mkb_app hd [91])
  go_enter Tryd.func22, Tryd.ntmps22
  go_wp2_with fail
  refine Hd.out.mono ?_
  rintro e w1 ⟨rfl, hf1⟩
  have Hf1 := Lib.hid hf1
  clear hf1
  go_wp2
  go_loopg [3, 4] xs.length (fun gk v3 v4 wr => ∃ i : Nat, v4 = .int .i64 i ∧ v3 = .string ⟨(hd ++ [91] ++ ((xs.take i).map encText).flatten).toArray⟩ ∧ i ≤ xs.length ∧ gk = xs.length - i ∧ Fr [] w wr)
  case atStart => exact ⟨0, rfl, by rw [List.take_zero, List.map_nil, List.flatten_nil, List.append_nil, Hap0.out], Nat.zero_le _, rfl, Hf1.out⟩
  case round =>
    obtain ⟨i, rfl, rfl, hi, rfl, hb⟩ := hrel
    have Hb := Lib.hid hb
    clear hb
    have hfl := flat_le encText xs i
    by_cases hlt : i < xs.length
    · obtain ⟨b, off, rfl, _, hca⟩ := HA.out (by omega)
      obtain ⟨x, hxi⟩ : ∃ x, xs[i]? = some x := ⟨_, List.getElem?_eq_getElem hlt⟩
      have hcell : (xs.map bsv)[i]? = some (bsv x) := by rw [List.getElem?_map, hxi]; rfl
      have c0 : wr.cell? ⟨b, off + i, none⟩ = some (bsv x) := (hca.of_block Hb.out.size (Hb.out.block _ hca.1 (by simp))).2 i _ hcell
      have Hmem := Lib.hid (List.mem_of_getElem? hxi)
      have Hnx := Lib.hid (flat_take1 encText xs i x hxi)
      have hfl2 := flat_le encText xs (i + 1)
      rw [Hnx.out, List.length_append] at hfl2
      clear hca hcell hxi
      unfold bsv at c0
      obtain ⟨acc, hacc⟩ : ∃ acc, acc = hd ++ [91] ++ ((xs.take i).map encText).flatten := ⟨_, rfl⟩
      have hal : acc.length ≤ 1000000030 := by rw [hacc, List.length_append, List.length_append]; simp only [List.length_cons, List.length_nil]; omega
      have Hacc := Lib.hid hacc
      rw [← hacc]
      clear hacc hfl
      have hsa := size_l0 acc
      have hse := size_l0 (encText x)
      have Hap := Lib.hid (mkb_app acc (encText x))
      go_wp2_with fail
      refine (xtext_any ⟨x.toArray⟩ (by rw [size_l0]; have := HX.out x Hmem.out; omega) _).mono ?_
      rintro e w2 ⟨rfl, hf2⟩
      have Hf2 := Lib.hid (Hb.out.trans hf2)
      clear hf2
      go_wp2
      go_roundg (xs.length - (i + 1))
      case measure => omega
      case rel => exact ⟨i + 1, by go_num, by rw [Hnx.out, ← List.append_assoc, ← Hacc.out, ← Hap.out], by omega, rfl, Hf2.out⟩
    · have hii : i = xs.length := by omega
      subst hii
      rw [List.take_length] at hfl ⊢
      obtain ⟨acc, hacc⟩ : ∃ acc, acc = hd ++ [91] ++ (xs.map encText).flatten := ⟨_, rfl⟩
      have hal : acc.length ≤ 1000000030 := by rw [hacc, List.length_append, List.length_append]; simp only [List.length_cons, List.length_nil]; omega
      have Hacc := Lib.hid hacc
      rw [← hacc]
      clear hacc hfl
      have hsa := size_l0 acc
      have Hap := Lib.hid (mkb_app acc [93])
      go_wp2
      go_ret
      exact ⟨ret_str (by rw [He.out, ← Hacc.out, Hap.out]), Hb.out⟩

end Go.Proofs.YthajdajhclpaaaaDoor