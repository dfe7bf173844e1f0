/- Plain words: what the reference's Back makes of a string. No program here. -/
import Derived.Test.YthajdajhclpaaaaDoorWireRf
namespace Go.Proofs.YthajdajhclpaaaaDoor.Wr
open Go

def frm (l : List UInt8) : Nat := if l.head? = some 45 then 1 else 0
theorem num_shape {l : List UInt8} {n : Int} (h : IsNum l n) : (frm l = 1 ∧ n < 0 ∧ l = 45 :: Lib.decDigits n.natAbs) ∨ (frm l = 0 ∧ 0 ≤ n ∧ l = Lib.decDigits n.toNat) := by
  obtain ⟨_, h2⟩ := h
  unfold Lib.itoa at h2
  split at h2
  · rename_i hn
    refine .inl ⟨?_, hn, h2⟩
    rw [h2]
    rfl
  · rename_i hn
    refine .inr ⟨?_, by omega, h2⟩
    unfold frm
    rw [if_neg]
    intro hh
    have hm : (45 : UInt8) ∈ Lib.decDigits n.toNat := by
      rw [← h2]
      exact List.mem_of_mem_head? hh
    have := dec_digit _ _ hm
    simp at this
theorem num_char {l : List UInt8} {n : Int} (h : IsNum l n) (i : Nat) (hi : frm l ≤ i) (hl : i < l.length) : 48 ≤ l[i].toNat ∧ l[i].toNat ≤ 57 ∧ i < 20 := by
  have hlen : l.length ≤ 20 := by
    rw [h.2]
    exact itoa_len n h.1.1 h.1.2
  have hc : 48 ≤ l[i].toNat ∧ l[i].toNat ≤ 57 := by
    rcases num_shape h with ⟨hf, _, hs⟩ | ⟨hf, _, hs⟩
    · have hm : l[i] ∈ Lib.decDigits n.natAbs := by
        have e : l[i]? = some l[i] := List.getElem?_eq_getElem hl
        generalize l[i] = c at e ⊢
        rw [hs, show i = (i - 1) + 1 by omega, List.getElem?_cons_succ] at e
        exact List.mem_of_getElem? e
      exact dec_digit _ _ hm
    · have hm : l[i] ∈ Lib.decDigits n.toNat := by
        have := List.getElem_mem hl
        rw [← hs]
        exact this
      exact dec_digit _ _ hm
  exact ⟨hc.1, hc.2, by omega⟩
def bkv (l : List UInt8) (i : Nat) : Int := ((l.take i).drop (frm l)).foldl bkStep 0
theorem fold_range (l : List UInt8) (n : Int) (h : I64 n) : I64 (l.foldl bkStep n) := by
  induction l generalizing n with
  | nil => exact h
  | cons c l ih => exact ih _ (wr64_range _)
theorem bkv_range (l : List UInt8) (i : Nat) : I64 (bkv l i) := fold_range _ _ (by unfold I64; omega)
theorem bkv_from (l : List UInt8) : bkv l (frm l) = 0 := by
  unfold bkv
  rw [List.drop_eq_nil_of_le (by rw [List.length_take]; omega)]
  rfl
theorem bkv_succ (l : List UInt8) (i : Nat) (hi : frm l ≤ i) (hl : i < l.length) : bkv l (i + 1) = bkStep (bkv l i) l[i] := by
  unfold bkv
  rw [List.take_succ_eq_append_getElem hl, List.drop_append, List.foldl_append, List.length_take]
  have e : frm l - min i l.length = 0 := by omega
  rw [e]
  rfl
def bkn (l : List UInt8) : Int := if frm l = 0 then wr64 (-(bkv l l.length)) else bkv l l.length
theorem bkn_range (l : List UInt8) : I64 (bkn l) := by
  unfold bkn
  split
  · exact wr64_range _
  · exact bkv_range _ _
theorem bkn_num {l : List UInt8} {n : Int} (h : IsNum l n) : bkn l = n := by
  have h1 := h.1
  unfold I64 at h1
  unfold bkn bkv
  rw [List.take_length]
  rcases num_shape h with ⟨hf, hn, hs⟩ | ⟨hf, hn, hs⟩
  · rw [if_neg (by omega), hf, hs]
    show (Lib.decDigits n.natAbs).foldl bkStep 0 = n
    rw [bk_dec _ (by omega)]
    omega
  · rw [if_pos hf, hf, hs, List.drop_zero, bk_dec _ (by omega), wr64_in _ (by unfold I64; omega)]
    omega
theorem bkn_ok (l : List UInt8) : Lib.itoa (bkn l) ++ [59] = l ++ [59] ↔ IsNum l (bkn l) :=
  ⟨fun h => ⟨bkn_range l, (List.append_cancel_right h).symm⟩, fun h => by rw [← h.2]⟩
theorem bkn_no {l : List UInt8} (h : ¬ Lib.itoa (bkn l) ++ [59] = l ++ [59]) (n : Int) : ¬ IsNum l n := fun hn => h ((bkn_ok l).2 (by rw [bkn_num hn]; exact hn))

/-- Where the reference stops to look for the byte. -/
def stopAt (l : List UInt8) (e : UInt8) : Nat := Nat.min (l.takeWhile (· ≠ e)).length 21

end Go.Proofs.YthajdajhclpaaaaDoor.Wr
