/- Layer 1: SameNums, SameTexts at equal lists. (Printed by gensame.py.) -/
import Derived.Test.YthajdajhclpaaaaDoorLawV
namespace Go.Proofs.YthajdajhclpaaaaDoor
open Go.RowKit Go.Shelf Wr

set_option maxRecDepth 100000 in
theorem same_int (xs : List Int) {B B' : Nat} {w : World} {v v' : Value} (h : SL B w v xs.length (xs.map (Value.int .i64))) (h' : SL B' w v' xs.length (xs.map (Value.int .i64))) (hl : xs.length ≤ 1000000) :
    Calls Tryd.prog 38 #[v, v'] w fun e w' => e = .returned (.bool true) ∧ Fr [] w w' := by
  obtain ⟨A, c, rfl, _, hA⟩ := h
  obtain ⟨A', c', rfl, _, hA'⟩ := h'
  have HA := Lib.hid hA
  have HA' := Lib.hid hA'
  clear hA hA'
  go_enter Tryd.func38, Tryd.ntmps38
  go_wp2
  go_loopg [5] xs.length (fun gk iv wr => ∃ k : Nat, iv = .int .i64 k ∧ k ≤ xs.length ∧ gk = xs.length - k ∧ Fr [] w wr)
  case atStart => exact ⟨0, rfl, Nat.zero_le _, rfl, Fr.refl _ _⟩
  case round =>
    obtain ⟨k, rfl, hk, rfl, hb⟩ := hrel
    have Hb := Lib.hid hb
    clear hb
    by_cases hlt : k < xs.length
    · obtain ⟨b, off, rfl, _, hca⟩ := HA.out (by omega)
      obtain ⟨b', off', rfl, _, hca'⟩ := HA'.out (by omega)
      obtain ⟨x, hx⟩ : ∃ x, xs[k]? = some x := ⟨_, List.getElem?_eq_getElem hlt⟩
      have hcell : (xs.map (Value.int .i64))[k]? = some ((Value.int .i64) x) := by rw [List.getElem?_map, hx]; rfl
      have c0 : wr.cell? ⟨b, off + k, none⟩ = some ((Value.int .i64) x) := (hca.of_block Hb.out.size (Hb.out.block _ hca.1 (by simp))).2 k _ hcell
      have c1 : wr.cell? ⟨b', off' + k, none⟩ = some ((Value.int .i64) x) := (hca'.of_block Hb.out.size (Hb.out.block _ hca'.1 (by simp))).2 k _ hcell
      clear hca hca' hcell hx
      skip
      go_wp2_with fail
      go_still_tail 8, (by kernel_rfl)
      change wpList _ _ _ _ _ wr.drew
      go_wp2
      go_roundg (xs.length - (k + 1))
      case measure => omega
      case rel => exact ⟨k + 1, by go_num, by omega, rfl, Hb.out.drew⟩
    · have hkk : k = xs.length := by omega
      subst hkk
      go_wp2
      go_ret
      exact ⟨rfl, Hb.out⟩

set_option maxRecDepth 100000 in
theorem same_str (xs : List (List UInt8)) {B B' : Nat} {w : World} {v v' : Value} (h : SL B w v xs.length (xs.map bsv)) (h' : SL B' w v' xs.length (xs.map bsv)) (hl : xs.length ≤ 1000000) :
    Calls Tryd.prog 40 #[v, v'] w fun e w' => e = .returned (.bool true) ∧ Fr [] w w' := by
  obtain ⟨A, c, rfl, _, hA⟩ := h
  obtain ⟨A', c', rfl, _, hA'⟩ := h'
  have HA := Lib.hid hA
  have HA' := Lib.hid hA'
  clear hA hA'
  go_enter Tryd.func40, Tryd.ntmps40
  go_wp2
  go_loopg [5] xs.length (fun gk iv wr => ∃ k : Nat, iv = .int .i64 k ∧ k ≤ xs.length ∧ gk = xs.length - k ∧ Fr [] w wr)
  case atStart => exact ⟨0, rfl, Nat.zero_le _, rfl, Fr.refl _ _⟩
  case round =>
    obtain ⟨k, rfl, hk, rfl, hb⟩ := hrel
    have Hb := Lib.hid hb
    clear hb
    by_cases hlt : k < xs.length
    · obtain ⟨b, off, rfl, _, hca⟩ := HA.out (by omega)
      obtain ⟨b', off', rfl, _, hca'⟩ := HA'.out (by omega)
      obtain ⟨x, hx⟩ : ∃ x, xs[k]? = some x := ⟨_, List.getElem?_eq_getElem hlt⟩
      have hcell : (xs.map bsv)[k]? = some (bsv x) := by rw [List.getElem?_map, hx]; rfl
      have c0 : wr.cell? ⟨b, off + k, none⟩ = some (bsv x) := (hca.of_block Hb.out.size (Hb.out.block _ hca.1 (by simp))).2 k _ hcell
      have c1 : wr.cell? ⟨b', off' + k, none⟩ = some (bsv x) := (hca'.of_block Hb.out.size (Hb.out.block _ hca'.1 (by simp))).2 k _ hcell
      clear hca hca' hcell hx
      unfold bsv at c0 c1
      go_wp2_with fail
      go_still_tail 8, (by kernel_rfl)
      change wpList _ _ _ _ _ wr.drew
      go_wp2
      go_roundg (xs.length - (k + 1))
      case measure => omega
      case rel => exact ⟨k + 1, by go_num, by omega, rfl, Hb.out.drew⟩
    · have hkk : k = xs.length := by omega
      subst hkk
      go_wp2
      go_ret
      exact ⟨rfl, Hb.out⟩

end Go.Proofs.YthajdajhclpaaaaDoor
