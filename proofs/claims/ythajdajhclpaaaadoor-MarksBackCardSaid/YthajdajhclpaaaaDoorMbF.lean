/- Layer 35: what may be written stays so. -/
import Derived.Test.YthajdajhclpaaaaDoorRisePl
import Derived.Test.YthajdajhclpaaaaDoorMbP
namespace Go.Proofs.YthajdajhclpaaaaDoor
open Go.RowKit Wr

theorem settled_okT {ins : List (Int × Bool)} {com : Int} (h : ∀ x, x ∈ ins → Mk.okT x.1 = true) (hc : Mk.okT com = true) : Mk.okT (Mk.settled ins com) = true := by
  unfold Mk.settled
  have ha : ∀ y, y ∈ Mk.act ins → -1 ≤ y ∧ y ≤ 1099511627776 := fun y hy => by
    unfold Mk.act at hy
    obtain ⟨x, hx, rfl⟩ := List.mem_map.1 hy
    exact (Mk.okT_iff _).1 (h x (List.mem_filter.1 hx).1)
  split
  · exact hc
  · rename_i n hn
    have h1 := least_ge hn (fun y hy => (ha y hy).1)
    have h2 : n ≤ 1099511627776 := by
      cases hl : Mk.act ins with
      | nil => rw [hl] at hn; cases hn
      | cons y r =>
        rw [hl] at hn
        have h3 := least_le hn y (by simp)
        have h4 := (ha y (by rw [hl]; simp)).2
        omega
    have := (Mk.okT_iff _).1 hc
    rw [Mk.okT_iff]
    omega
theorem settled_same (ins : List (Int × Bool)) (com : Int) : Mk.settled ins (Mk.settled ins com) = Mk.settled ins com := by
  unfold Mk.settled
  split
  · rfl
  · rename_i n _
    show max n (max n com) = max n com
    omega
theorem fit_put {ins : List (Int × Bool)} {com : Int} (h : Mk.Fit ins com) (k : Nat) (y : Int × Bool) (hy : Mk.okT y.1 = true) : Mk.Fit (ins.set k y) (Mk.settled (ins.set k y) com) := by
  have he : ∀ x, x ∈ ins.set k y → Mk.okT x.1 = true := fun x hx => by
    rcases List.mem_or_eq_of_mem_set hx with h1 | rfl
    · exact h.each x h1
    · exact hy
  exact ⟨by rw [List.length_set]; exact h.len, settled_okT he h.cm, he, settled_same _ _⟩
theorem old_okT {ins : List (Int × Bool)} {com : Int} (h : Mk.Fit ins com) (i : Int) (hi : 0 ≤ i ∧ i < ins.length) : Mk.okT ((ins[i.toNat]?).getD (0, false)).1 = true := by
  have hl : i.toNat < ins.length := by omega
  rw [List.getElem?_eq_getElem hl]
  exact h.each _ (List.getElem_mem hl)
theorem fit_do {ins : List (Int × Bool)} {com : Int} (h : Mk.Fit ins com) (d i m : Int) : Mk.Fit (doS ins com d i m).1 (doS ins com d i m).2 := by
  have hidle : ∀ on, Mk.Fit (idleS ins com i on).1 (idleS ins com i on).2 := fun on => by
    unfold idleS
    split
    · rename_i he
      unfold idleE at he
      by_cases hi : 0 ≤ i ∧ i < ins.length
      · exact fit_put h _ _ (old_okT h i hi)
      · rw [if_pos hi] at he
        cases he
    · exact h
  unfold doS
  split
  · exact hidle true
  · split
    · exact hidle false
    · unfold noteS
      split
      · rename_i he
        unfold noteE at he
        by_cases hi : 0 ≤ i ∧ i < ins.length
        · rw [if_neg (fun h => h hi)] at he
          by_cases hm : m < -1 ∨ m > 1099511627776
          · rw [if_pos hm] at he
            cases he
          · refine fit_put h _ _ ?_
            have := (Mk.okT_iff _).1 (old_okT h i hi)
            rw [Mk.okT_iff]
            simp only
            omega
        · rw [if_pos hi] at he
          cases he
      · exact h
theorem act_rep (k : Nat) : ∀ y, y ∈ Mk.act (List.replicate k ((-1 : Int), false)) → y = -1 := fun y hy => by
  unfold Mk.act at hy
  obtain ⟨x, hx, rfl⟩ := List.mem_map.1 hy
  have := List.eq_of_mem_replicate (List.mem_filter.1 hx).1
  rw [this]
theorem fit_new (n : Int) : Mk.Fit (List.replicate (cnt n) ((-1 : Int), false)) (-1) := by
  refine ⟨by rw [List.length_replicate]; unfold cnt; omega, by decide, fun x hx => by rw [List.eq_of_mem_replicate hx]; decide, ?_⟩
  have h1 := settled_ge (List.replicate (cnt n) ((-1 : Int), false)) (-1)
  unfold Mk.settled at h1 ⊢
  split
  · rfl
  · rename_i m hm
    have h2 : m ≤ -1 := by
      cases hl : Mk.act (List.replicate (cnt n) ((-1 : Int), false)) with
      | nil => rw [hl] at hm; cases hm
      | cons y r =>
        rw [hl] at hm
        have h3 := least_le hm y (by simp)
        have h4 := act_rep (cnt n) y (by rw [hl]; simp)
        omega
    omega
theorem encM_len {ins : List (Int × Bool)} {com : Int} (h : Mk.Fit ins com) : (Mk.encM ins com).length ≤ 8500 := by
  unfold Mk.encM
  have h0 := h.len
  have h1 : (encInt com).length ≤ 21 := by
    have h2 := Mk.okT_i64 h.cm
    have := itoa_len com h2.1 h2.2
    unfold encInt
    rw [List.length_append]
    simp
    omega
  have h2 : (encInt (ins.length : Int)).length ≤ 21 := by
    have := itoa_len (ins.length : Int) (by omega) (by omega)
    unfold encInt
    rw [List.length_append]
    simp
    omega
  have h3 : ∀ l : List (Int × Bool), (∀ x, x ∈ l → Mk.okT x.1 = true) → ((l.map Mk.enc1).flatten).length ≤ l.length * 42 := by
    intro l hl
    induction l with
    | nil => exact Nat.zero_le _
    | cons x l ih =>
      have h4 := ih (fun y hy => hl y (by simp [hy]))
      have h5 := Mk.okT_i64 (hl x (by simp))
      have h6 := itoa_len x.1 h5.1 h5.2
      have h7 := itoa_len (Mk.idl x.2) (by unfold Mk.idl; split <;> omega) (by unfold Mk.idl; split <;> omega)
      have h8 : (Mk.enc1 x).length ≤ 42 := by
        unfold Mk.enc1 encInt
        simp only [List.length_append, List.length_cons, List.length_nil]
        omega
      rw [List.map_cons, List.flatten_cons, List.length_append, List.length_cons]
      omega
  have h4 := h3 ins h.each
  rw [List.length_append, List.length_append]
  omega

end Go.Proofs.YthajdajhclpaaaaDoor
