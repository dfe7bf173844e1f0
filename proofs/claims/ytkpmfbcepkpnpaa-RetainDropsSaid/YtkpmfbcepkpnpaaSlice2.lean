/- The store's Slice and Copy. -/
import Derived.Test.YtkpmfbcepkpnpaaSlice
namespace Go.Proofs.Ytkpmfbcepkpnpaa
open Go.RowKit Go.Shelf

section
variable {B : Nat} {X : List Nat} {w w' : World} {a : Nat} {part first hor : Int} {v : Value} {es : List (Ev × Value)}

set_option maxHeartbeats 2000000 in
theorem copy_any (h : St B X w a part first hor v es) (hl : es.length ≤ 1000000) (hBw : B ≤ w.heap.size) (X' : List Nat) (hX' : ∀ k, k ∈ X' → k < w.heap.size) :
    Calls Try.prog 19 #[.pointer (some ⟨a, 0, none⟩)] w fun e w' => ∃ a', e = .returned (.pointer (some ⟨a', 0, none⟩)) ∧ ∃ v' es', es'.map (·.1) = es.map (·.1) ∧ St B X' w' a' part first hor v' es' ∧ Fr [] w w' ∧ ∀ i, i ∈ fpS a' v' → w.heap.size ≤ i := by
  have hA : ∃ A c, v = .slice A es.length c ∧ (0 < es.length → ∃ b off, A = some ⟨b, off, none⟩ ∧ Came w b off (ecells es)) := by
    rcases h.split with ⟨h1, h2⟩ | ⟨g, c, h1, _⟩
    · exact ⟨none, 0, by rw [h1, h2]; rfl, fun h0 => by rw [h2] at h0; exact absurd h0 (by simp)⟩
    · subst h1
      exact ⟨_, c, rfl, fun _ => ⟨g, 0, rfl, h.came⟩⟩
  obtain ⟨A, c, rfl, hA⟩ := hA
  obtain ⟨c0, c1, c2, c3⟩ := h.cells
  have ha := h.row.lt
  have HA := Lib.hid hA
  have HX := Lib.hid hX'
  have H := Lib.hid h
  clear hA hX' h
  go_enter Try.func19, Try.ntmps19
  go_wp2_with fail
  have hb1 : Fr [] w (w.alloc (.cells #[.int .i64 part, .int .i64 first, .int .i64 hor, .slice A es.length c] 52)) := by (repeat' (first | with_reducible exact Fr.refl _ _ | with_reducible assumption | with_reducible apply Fr.drew | with_reducible apply Fr.drewN | with_reducible apply Fr.alloc | (with_reducible refine Fr.set ?_ (.inr (by first | exact Nat.le_refl _ | exact Nat.le_succ _ | (simp; done) | (simp; omega))) _)))
  have hr1 := row_new w 52 #[.int .i64 part, .int .i64 first, .int .i64 hor, .slice A es.length c] _ rfl
  refine (copied_any (B := B) (X := X) A c es _ (fun h0 => by
    obtain ⟨b, off, h1, h2⟩ := HA.out h0
    exact ⟨b, off, h1, h2.of_block hb1.size (hb1.block _ h2.1 (by simp))⟩) (H.out.rows.quiet hb1) hl (Nat.le_trans hBw hb1.size) X' (fun k hk => Nat.lt_of_lt_of_le (HX.out k hk) hb1.size)).mono ?_
  rintro e w1 ⟨v1, rfl, es1, hes, hown, hR1, hf1⟩
  have hlen : es1.length = es.length := by have := congrArg List.length hes; simpa using this
  obtain ⟨A1, c1', hv1⟩ : ∃ A c, v1 = .slice A es.length c := by
    rcases hown.2 with ⟨h1, h2⟩ | ⟨g, c, _, h1, _⟩
    · exact ⟨none, 0, by rw [h1, h2]⟩
    · exact ⟨_, c, h1⟩
  subst hv1
  have hr2 := hr1.fr hf1 (by simp)
  have d3 := hr2.frozen 3
  have e0 : w1.cell? ⟨w.heap.size, 0, none⟩ = some (.int .i64 part) := by rw [hr2.cell]; rfl
  have e1 : w1.cell? ⟨w.heap.size, 1, none⟩ = some (.int .i64 first) := by rw [hr2.cell]; rfl
  have e2 : w1.cell? ⟨w.heap.size, 2, none⟩ = some (.int .i64 hor) := by rw [hr2.cell]; rfl
  have e3 : w1.cell? ⟨w.heap.size, 3, none⟩ = some (.slice A es.length c) := by rw [hr2.cell]; rfl
  have Hr2 := Lib.hid hr2
  have Hown := Lib.hid hown
  have HR1 := Lib.hid hR1
  have Hf1 := Lib.hid (hb1.trans hf1)
  have Hes := Lib.hid hes
  have Hlen := Lib.hid hlen
  clear hr1 hr2 hown hR1 hf1 hes hlen hb1 c0 c1 c2 c3
  go_wp2
  go_ret
  have hset : Fr [w.heap.size] w1 (w1.setCell ⟨w.heap.size, 3, none⟩ (.slice A1 es.length c1')) := Fr.set (Fr.refl _ _) (.inl (by simp)) _
  have hown := own_base (b := B) Hown.out (by simp; omega)
  have hsz : w.heap.size < (w.alloc (.cells #[.int .i64 part, .int .i64 first, .int .i64 hor, .slice A es.length c] 52)).heap.size := by simp
  have hna : w.heap.size ∉ fpv (.slice A1 es.length c1') := fun hin => by
    have := (own_fp Hown.out _ hin).1
    omega
  refine ⟨w.heap.size, rfl, .slice A1 es.length c1', es1, Hes.out, ⟨?_, hBw, ?_, ?_⟩, (Hf1.out.set (.inr (Nat.le_refl _)) _), fun i hi => ?_⟩
  · exact Hr2.out.set 3 _
  · rw [Hlen.out]
    exact own_fr hown hset (fun k hk hin => hna (by have e : k = w.heap.size := (by simpa using hin); rw [← e]; exact hk))
  · exact HR1.out.fr hset (row_off Hr2.out (by decide) hBw)
  · rcases List.mem_cons.1 hi with rfl | hi
    · exact Nat.le_refl _
    · have := (own_fp Hown.out i hi).1
      omega

theorem ecells_take (es : List (Ev × Value)) (m : Nat) : ecells (es.take m) = (ecells es).take (m * 6) := by
  induction es generalizing m with
  | nil => simp [ecells]
  | cons x es ih =>
    cases m with
    | zero => simp [ecells]
    | succ m =>
      have e1 : ∀ l, ecells (x :: l) = evCells x ++ ecells l := fun l => by simp [ecells]
      rw [List.take_succ_cons, e1, e1, ih m, show (m + 1) * 6 = (evCells x).length + m * 6 by (show (m + 1) * 6 = 6 + m * 6; omega), List.take_length_add_append]
theorem take_cap {α : Type} (l : List α) (m n : Nat) (h : m = min n l.length) : l.take m = l.take n := by
  subst h
  rcases Nat.le_total n l.length with h | h
  · rw [Nat.min_eq_left h]
  · rw [Nat.min_eq_right h, List.take_of_length_le (Nat.le_refl _), List.take_of_length_le h]

theorem slice_any (h : St B X w a part first hor v es) (hf0 : 0 ≤ first) (hf1 : first ≤ 1099511627776) (hl : es.length ≤ 1000000) (pos most : Int) (hBw : B ≤ w.heap.size) (X' : List Nat) (hX' : ∀ k, k ∈ X' → k < w.heap.size) :
    Calls Try.prog 17 #[.pointer (some ⟨a, 0, none⟩), .int .i64 pos, .int .i64 most] w fun e w' => ∃ v', e = .returned v' ∧ ∃ es' : List (Ev × Value), es'.map (·.1) = ((es.drop (plc first es.length pos)).take most.toNat).map (·.1) ∧ w'.ownsRow w.heap.size 30 6 v' es'.length (ecells es') ∧ Rows B X' w' es' ∧ Fr [] w w' := by
  have hple : plc first es.length pos ≤ es.length := by unfold plc; split; simp; split <;> omega
  have Hp := Lib.hid (place_any h hf0 hf1 hl pos)
  have H := Lib.hid h
  have hsp := h.split
  clear h
  generalize plc first es.length pos = k at *
  rcases hsp with ⟨h1, h2⟩ | ⟨g, c, h1, h2, h3⟩
  · subst h1 h2
    have hk0 : k = 0 := by simpa using hple
    subst hk0
    go_enter Try.func17, Try.ntmps17
    go_wp2_with fail
    refine Hp.out.mono ?_
    rintro e w1 ⟨rfl, n, hw1⟩
    have hF1 : Fr [] w w1 := by rw [hw1]; exact (Fr.refl [] w).drewN n
    have hst := H.out.quiet hF1
    have HF1 := Lib.hid hF1
    clear hw1 hF1
    obtain ⟨c0, c1, c2, c3⟩ := hst.cells
    clear hst
    have hw0 : IntKind.i64.wrap 0 = 0 := by decide
    obtain ⟨M, hM⟩ : ∃ M : Int, (if (0 : Int) < most then 0 else most) = M := ⟨_, rfl⟩
    have hm : (if 0 < M then M else 0) = 0 := by split at hM <;> split <;> omega
    go_wp2_with fail
    go_still_tail 18, (by kernel_rfl)
    change wpList _ _ _ _ _ w1.drew
    have hcp := copied_any (B := B) (X := X) none 0 [] w1.drew (fun h0 => absurd h0 (by simp)) (fun p hp => by cases hp) (by simp) (Nat.le_trans hBw HF1.out.size) X' (fun j hj => Nat.lt_of_lt_of_le (hX' j hj) HF1.out.size)
    rw [List.length_nil] at hcp
    have Hcp := Lib.hid hcp
    clear hcp
    go_wp2_with fail
    refine Hcp.out.mono ?_
    rintro e w2 ⟨v2, rfl, es2, hes, hown, hR2, hf2⟩
    have hlen : es2.length = 0 := by have := congrArg List.length hes; rw [List.length_map, List.length_map, List.length_nil] at this; exact this
    have Hown := Lib.hid hown
    have HR2 := Lib.hid hR2
    have Hf2 := Lib.hid (HF1.out.drew.trans hf2)
    have Hes := Lib.hid hes
    have Hlen := Lib.hid hlen
    clear hes hown hR2 hf2 hlen
    go_wp2
    go_ret
    have hz := HF1.out.size
    refine ⟨v2, rfl, es2, ?_, ?_, HR2.out, Hf2.out⟩
    · rw [Hes.out]
      rw [List.drop_nil, List.take_nil]
    · rw [Hlen.out]
      exact own_base Hown.out hz
  · subst h1
    go_enter Try.func17, Try.ntmps17
    go_wp2_with fail
    refine Hp.out.mono ?_
    rintro e w1 ⟨rfl, n, hw1⟩
    have hF1 : Fr [] w w1 := by rw [hw1]; exact (Fr.refl [] w).drewN n
    have hst := H.out.quiet hF1
    have HF1 := Lib.hid hF1
    clear hw1 hF1
    obtain ⟨c0, c1, c2, c3⟩ := hst.cells
    have Hst := Lib.hid hst
    clear hst
    have hw1 : IntKind.i64.wrap ((es.length : Int) - (k : Int)) = (es.length : Int) - k := by rw [IntKind.wrap_i64]; omega
    obtain ⟨M, hM⟩ : ∃ M : Int, (if (es.length : Int) - (k : Int) < most then (es.length : Int) - (k : Int) else most) = M := ⟨_, rfl⟩
    obtain ⟨m, hm⟩ : ∃ m : Nat, (if 0 < M then M else 0) = (m : Int) := ⟨(if 0 < M then M else 0).toNat, by split <;> omega⟩
    have hmk : m = min most.toNat (es.length - k) := by
      split at hM <;> split at hm <;> omega
    have hmn : k + m ≤ es.length := by omega
    have hw2 : IntKind.i64.wrap ((k : Int) + (m : Int)) = (k : Int) + m := by rw [IntKind.wrap_i64]; omega
    have hb1 : (k : Int) ≤ (k : Int) + m := by omega
    have hb2 : (k : Int) + m ≤ (c : Int) := by omega
    have Hmk := Lib.hid hmk
    clear hmk
    by_cases hkc : k < c
    · have hkc' : (k : Int) < (c : Int) := by omega
      go_wp2_with fail
      go_still_tail 18, (by kernel_rfl)
      change wpList _ _ _ _ _ w1.drew
      have hlm : ((es.drop k).take m).length = m := by rw [List.length_take, List.length_drop]; omega
      have hst1 := Hst.out.quiet ((Fr.refl [] w1).drew)
      have hca := hst1.came
      have hrw := hst1.rows
      have hcp := copied_any (B := B) (X := X) (some ⟨g, k * 6, none⟩) (c - k) ((es.drop k).take m) w1.drew (fun h0 => ⟨g, k * 6, rfl, hca.1, fun i u hu => by
        have h1 : (ecells es)[k * 6 + i]? = some u := by
          have h5 : ecells ((es.drop k).take m) = ((ecells es).drop (k * 6)).take (m * 6) := by
            rw [← ecells_drop, ecells_take]
          rw [h5, List.getElem?_take] at hu
          split at hu
          · rw [List.getElem?_drop] at hu; exact hu
          · cases hu
        have h4 := hca.2 _ _ h1
        rw [Nat.zero_add] at h4
        exact h4⟩) (fun p hp => hrw p (List.mem_of_mem_drop (List.mem_of_mem_take hp))) (by omega) (Nat.le_trans hBw HF1.out.size) X' (fun j hj => Nat.lt_of_lt_of_le (hX' j hj) HF1.out.size)
      rw [hlm] at hcp
      have Hcp := Lib.hid hcp
      have Hlm := Lib.hid hlm
      clear hcp hlm hst1 hca hrw
      go_wp2_with fail
      refine Hcp.out.mono ?_
      rintro e w2 ⟨v2, rfl, es2, hes, hown, hR2, hf2⟩
      have hlen : es2.length = m := by have := congrArg List.length hes; rw [List.length_map, List.length_map, Hlm.out] at this; exact this
      have Hown := Lib.hid hown
      have HR2 := Lib.hid hR2
      have Hf2 := Lib.hid (HF1.out.drew.trans hf2)
      have Hes := Lib.hid hes
      have Hlen := Lib.hid hlen
      clear hes hown hR2 hf2 hlen
      go_wp2
      go_ret
      have hz := HF1.out.size
      refine ⟨v2, rfl, es2, ?_, ?_, HR2.out, Hf2.out⟩
      · rw [Hes.out]
        rw [take_cap (es.drop k) m most.toNat (by rw [List.length_drop]; exact Hmk.out)]
      · rw [Hlen.out]
        exact own_base Hown.out hz
    · have hkc2 : c = k := by omega
      subst hkc2
      go_wp2_with fail
      go_still_tail 18, (by kernel_rfl)
      change wpList _ _ _ _ _ w1.drew
      have hcp := copied_any (B := B) (X := X) (some ⟨g, 0, none⟩) 0 [] w1.drew (fun h0 => absurd h0 (by simp)) (fun p hp => by cases hp) (by simp) (Nat.le_trans hBw HF1.out.size) X' (fun j hj => Nat.lt_of_lt_of_le (hX' j hj) HF1.out.size)
      rw [List.length_nil] at hcp
      have Hcp := Lib.hid hcp
      clear hcp
      have Hdn : Hid (es.drop c = []) := List.drop_eq_nil_of_le (by omega)
      go_wp2_with fail
      refine Hcp.out.mono ?_
      rintro e w2 ⟨v2, rfl, es2, hes, hown, hR2, hf2⟩
      have hlen : es2.length = 0 := by have := congrArg List.length hes; rw [List.length_map, List.length_map, List.length_nil] at this; exact this
      have Hown := Lib.hid hown
      have HR2 := Lib.hid hR2
      have Hf2 := Lib.hid (HF1.out.drew.trans hf2)
      have Hes := Lib.hid hes
      have Hlen := Lib.hid hlen
      clear hes hown hR2 hf2 hlen
      go_wp2
      go_ret
      have hz := HF1.out.size
      refine ⟨v2, rfl, es2, ?_, ?_, HR2.out, Hf2.out⟩
      · rw [Hes.out]
        rw [Hdn.out, List.take_nil]
      · rw [Hlen.out]
        exact own_base Hown.out hz
end

end Go.Proofs.Ytkpmfbcepkpnpaa
