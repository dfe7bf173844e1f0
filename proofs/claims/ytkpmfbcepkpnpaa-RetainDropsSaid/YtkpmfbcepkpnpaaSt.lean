/- The store: what it holds; New, Part, First, Next, Horizon, right, event. -/
import Derived.Test.YtkpmfbcepkpnpaaEvs
import Derived.Deep.QuietTactic
import Derived.BigQuiet
namespace Go.Proofs.Ytkpmfbcepkpnpaa
open Go.RowKit Go.Shelf

/-- A store at block a. -/
structure St (B : Nat) (X : List Nat) (w : World) (a : Nat) (part first hor : Int) (v : Value) (es : List (Ev × Value)) : Prop where
  row : Row w a 52 [.int .i64 part, .int .i64 first, .int .i64 hor, v]
  ge : B ≤ a
  own : w.ownsRow B 30 6 v es.length (ecells es)
  rows : Rows B X w es

section
variable {B : Nat} {X : List Nat} {w w' : World} {a : Nat} {part first hor : Int} {v : Value} {es : List (Ev × Value)}
/-- The store's own blocks. -/
def fpS (a : Nat) (v : Value) : List Nat := a :: fpv v
theorem own_off {B' : Nat} {t : TypeId} {size n : Nat} {xs : List Value} (h : w.ownsRow B' t size v n xs) (ht : t ≠ 44) (hB : B ≤ B') : Off B X w (fpv v) := fun k hk => by
  refine .inr ⟨Nat.le_trans hB (own_fp h k hk).1, fun cs hr => ?_⟩
  exact own_ne h hr ht hk
theorem row_off {g : Nat} {t : TypeId} {cs : List Value} (h : Row w g t cs) (ht : t ≠ 44) (hB : B ≤ g) : Off B X w [g] := fun k hk => by
  have : k = g := by simpa using hk
  subst this
  exact .inr ⟨hB, fun cs' hr => (h.ne hr ht) rfl⟩
theorem St.off (h : St B X w a part first hor v es) : Off B X w (fpS a v) := fun k hk => by
  rcases List.mem_cons.1 hk with rfl | hk
  · exact row_off h.row (by decide) h.ge k (by simp)
  · exact own_off h.own (by decide) (Nat.le_refl _) k hk
theorem St.fp_ge (h : St B X w a part first hor v es) : ∀ k, k ∈ fpS a v → B ≤ k ∧ k < w.heap.size := fun k hk => by
  rcases List.mem_cons.1 hk with rfl | hk
  · exact ⟨h.ge, h.row.lt⟩
  · exact own_fp h.own k hk
theorem St.fr {S : List Nat} (h : St B X w a part first hor v es) (hf : Fr S w w') (hS : ∀ k, k ∈ fpS a v → k ∉ S) (hO : Off B X w S) : St B X w' a part first hor v es :=
  ⟨h.row.fr hf (hS a (by simp [fpS])), h.ge, own_fr h.own hf (fun k hk => hS k (by simp [fpS, hk])), h.rows.fr hf hO⟩
theorem St.quiet (h : St B X w a part first hor v es) (hf : Fr [] w w') : St B X w' a part first hor v es := h.fr hf (fun _ _ => by simp) (Off.nil _ _ _)
theorem St.form (h : St B X w a part first hor v es) : ∃ A c, v = .slice A es.length c := by
  rcases h.own.2 with ⟨h1, h2⟩ | ⟨g, c, _, h1, _⟩
  · exact ⟨none, 0, by rw [h1, h2]⟩
  · exact ⟨_, c, h1⟩
theorem St.cells (h : St B X w a part first hor v es) : w.cell? ⟨a, 0, none⟩ = some (.int .i64 part) ∧ w.cell? ⟨a, 1, none⟩ = some (.int .i64 first) ∧ w.cell? ⟨a, 2, none⟩ = some (.int .i64 hor) ∧ w.cell? ⟨a, 3, none⟩ = some v :=
  ⟨by rw [h.row.cell]; rfl, by rw [h.row.cell]; rfl, by rw [h.row.cell]; rfl, by rw [h.row.cell]; rfl⟩

theorem new_any (part : Int) (w : World) (B : Nat) (X : List Nat) (hB : B ≤ w.heap.size) : Calls Try.prog 8 #[.int .i64 part] w fun e w' => ∃ a, e = .returned (.pointer (some ⟨a, 0, none⟩)) ∧ w.heap.size ≤ a ∧ St B X w' a part 0 0 (.slice none 0 0) [] ∧ Fr [] w w' := by
  go_enter Try.func8, Try.ntmps8
  go_wp2
  go_ret
  exact ⟨w.heap.size, rfl, Nat.le_refl _, ⟨row_new _ _ _ _ rfl, hB, World.ownsRow_nil _ _ _ _, fun p hp => by cases hp⟩, by (repeat' (first | with_reducible exact Fr.refl _ _ | with_reducible assumption | with_reducible apply Fr.drew | with_reducible apply Fr.drewN | with_reducible apply Fr.alloc | (with_reducible refine Fr.set ?_ (.inr (by first | exact Nat.le_refl _ | exact Nat.le_succ _ | (simp; done) | (simp; omega))) _)))⟩

theorem first_any (h : St B X w a part first hor v es) : Calls Try.prog 13 #[.pointer (some ⟨a, 0, none⟩)] w fun e w' => e = .returned (.int .i64 first) ∧ w' = w := by
  obtain ⟨_, c1, _, _⟩ := h.cells
  clear h
  go_enter Try.func13, Try.ntmps13
  go_wp2
  go_ret
  exact ⟨rfl, rfl⟩
theorem horizon_any (h : St B X w a part first hor v es) : Calls Try.prog 14 #[.pointer (some ⟨a, 0, none⟩)] w fun e w' => e = .returned (.int .i64 hor) ∧ w' = w := by
  obtain ⟨_, _, c1, _⟩ := h.cells
  clear h
  go_enter Try.func14, Try.ntmps14
  go_wp2
  go_ret
  exact ⟨rfl, rfl⟩
theorem part_any (h : St B X w a part first hor v es) : Calls Try.prog 22 #[.pointer (some ⟨a, 0, none⟩)] w fun e w' => e = .returned (.int .i64 part) ∧ w' = w := by
  obtain ⟨c1, _, _, _⟩ := h.cells
  clear h
  go_enter Try.func22, Try.ntmps22
  go_wp2
  go_ret
  exact ⟨rfl, rfl⟩
theorem next_any (h : St B X w a part first hor v es) (hf0 : 0 ≤ first) (hf1 : first ≤ 1099511627776) (hl : es.length ≤ 1000000) : Calls Try.prog 15 #[.pointer (some ⟨a, 0, none⟩)] w fun e w' => e = .returned (.int .i64 (first + es.length)) ∧ Fr [] w w' ∧ ∃ n, w' = w.drewN n := by
  obtain ⟨_, c1, _, c2⟩ := h.cells
  obtain ⟨A, c, rfl⟩ := h.form
  clear h
  have hw : IntKind.i64.wrap (first + (es.length : Int)) = first + es.length := by rw [IntKind.wrap_i64]; omega
  generalize es.length = n at *
  go_enter Try.func15, Try.ntmps15
  go_wp2
  try go_quiet (fail)
  go_wp2
  go_ret
  exact ⟨rfl, by (repeat' (first | with_reducible exact Fr.refl _ _ | with_reducible assumption | with_reducible apply Fr.drew | with_reducible apply Fr.drewN | with_reducible apply Fr.alloc | (with_reducible refine Fr.set ?_ (.inr (by first | exact Nat.le_refl _ | exact Nat.le_succ _ | (simp; done) | (simp; omega))) _))), by first | exact ⟨0, rfl⟩ | exact ⟨1, rfl⟩ | exact ⟨_, rfl⟩⟩

set_option maxHeartbeats 1000000 in
/-- event: the same, its row in memory of its own. -/
theorem event_any (p q : Int) (s : ByteArray) (sc t : Int) {row : List Vl} {v : Value} (h : RV B X w v row) (hl : row.length ≤ 100000) (hB : B ≤ w.heap.size) (X' : List Nat) (hX' : ∀ k, k ∈ X' → k < w.heap.size) :
    Calls Try.prog 26 #[.agg #[.int .i64 p, .int .i64 q, .string s, .int .i64 sc, .int .i64 t, v]] w fun e w' => ∃ v', e = .returned (.agg #[.int .i64 p, .int .i64 q, .string s, .int .i64 sc, .int .i64 t, v']) ∧ RV B X' w' v' row ∧ Fr [] w w' := by
  have a30 := Try.isAgg30
  have z30 := Try.sizeOf30
  obtain ⟨A, c, hv⟩ : ∃ A c, v = .slice A row.length c := by obtain ⟨A, c, h, _⟩ := h; exact ⟨A, c, h⟩
  subst hv
  have H := Lib.hid h
  have Hl := Lib.hid hl
  have HX := Lib.hid hX'
  clear h hl hX'
  go_enter Try.func26, Try.ntmps26
  go_wp2_with fail
  generalize hW : (w.alloc _).alloc _ = W at *
  have hR0 : Row W w.heap.size 30 [.int .i64 p, .int .i64 q, .string s, .int .i64 sc, .int .i64 t, .slice A row.length c] := by
    rw [← hW]; exact (row_new w _ _ _ rfl).alloc _
  have hR1 : Row W (w.heap.size + 1) 30 [.int .i64 0, .int .i64 0, .string ⟨#[]⟩, .int .i64 0, .int .i64 0, .slice none 0 0] := by
    rw [← hW]; exact row_new _ _ _ _ (by simp)
  have hF : Fr [] w W := by rw [← hW]; (repeat' (first | with_reducible exact Fr.refl _ _ | with_reducible assumption | with_reducible apply Fr.drew | with_reducible apply Fr.drewN | with_reducible apply Fr.alloc | (with_reducible refine Fr.set ?_ (.inr (by first | exact Nat.le_refl _ | exact Nat.le_succ _ | (simp; done) | (simp; omega))) _)))
  clear hW
  have hs := hR1.lt
  refine (clone_row (H.out.quiet hF) Hl.out X' (fun k hk => Nat.lt_of_lt_of_le (HX.out k hk) hF.size)).mono ?_
  rintro e w1 ⟨v', rfl, hrv, hf⟩
  obtain ⟨A', c', hv⟩ : ∃ A c, v' = .slice A row.length c := by obtain ⟨A, c, h, _⟩ := hrv; exact ⟨A, c, h⟩
  subst hv
  have r0 := hR0.fr hf (by simp)
  have r1 := hR1.fr hf (by simp)
  have k0 : w1.cell? ⟨w.heap.size, 0, none⟩ = some (.int .i64 p) := by rw [r0.cell]; rfl
  have k1 : w1.cell? ⟨w.heap.size, 1, none⟩ = some (.int .i64 q) := by rw [r0.cell]; rfl
  have k2 : w1.cell? ⟨w.heap.size, 2, none⟩ = some (.string s) := by rw [r0.cell]; rfl
  have k3 : w1.cell? ⟨w.heap.size, 3, none⟩ = some (.int .i64 sc) := by rw [r0.cell]; rfl
  have k4 : w1.cell? ⟨w.heap.size, 4, none⟩ = some (.int .i64 t) := by rw [r0.cell]; rfl
  have k5 : w1.cell? ⟨w.heap.size, 5, none⟩ = some (.slice A row.length c) := by rw [r0.cell]; rfl
  have l0 : w1.cell? ⟨w.heap.size + 1, 0, none⟩ = some (.int .i64 0) := by rw [r1.cell]; rfl
  have l1 : w1.cell? ⟨w.heap.size + 1, 1, none⟩ = some (.int .i64 0) := by rw [r1.cell]; rfl
  have l2 : w1.cell? ⟨w.heap.size + 1, 2, none⟩ = some (.string ⟨#[]⟩) := by rw [r1.cell]; rfl
  have l3 : w1.cell? ⟨w.heap.size + 1, 3, none⟩ = some (.int .i64 0) := by rw [r1.cell]; rfl
  have l4 : w1.cell? ⟨w.heap.size + 1, 4, none⟩ = some (.int .i64 0) := by rw [r1.cell]; rfl
  have l5 : w1.cell? ⟨w.heap.size + 1, 5, none⟩ = some (.slice none 0 0) := by rw [r1.cell]; rfl
  have f0 := r0.frozen 5
  have f1 := fun i => r1.frozen i
  have Hrv := Lib.hid hrv
  have Hf := Lib.hid (hF.trans hf)
  have o0 := row_off (B := B) (X := X') r0 (by decide) hB
  have o1 := row_off (B := B) (X := X') r1 (by decide) (by omega)
  have HO : Hid (Off B X' w1 [w.heap.size, w.heap.size + 1]) := fun k hk => by
    have : k = w.heap.size ∨ k = w.heap.size + 1 := by simpa using hk
    rcases this with rfl | rfl
    · exact o0 _ (by simp)
    · exact o1 _ (by simp)
  clear hrv hf hF hR0 hR1 o0 o1 r0 r1
  go_wp2
  try simp only [Exit.inBlock, Exit.then]
  refine post_cell rfl rfl (v := .agg #[.int .i64 p, .int .i64 q, .string s, .int .i64 sc, .int .i64 t, .slice A' row.length c']) ?_ rfl ⟨_, rfl, ?_, ?_⟩
  · simp [loadVar, a30, z30]
    go_simp
  · refine Hrv.out.fr (S := [w.heap.size, w.heap.size + 1]) ?_ HO.out
    repeat' (first | with_reducible exact Fr.refl _ _ | (with_reducible refine Fr.set ?_ (.inl (by simp)) _))
  · have hf := Hf.out
    (repeat' (first | with_reducible exact Fr.refl _ _ | with_reducible assumption | with_reducible apply Fr.drew | with_reducible apply Fr.drewN | with_reducible apply Fr.alloc | (with_reducible refine Fr.set ?_ (.inr (by first | exact Nat.le_refl _ | exact Nat.le_succ _ | (simp; done) | (simp; omega))) _)))
end

end Go.Proofs.Ytkpmfbcepkpnpaa
