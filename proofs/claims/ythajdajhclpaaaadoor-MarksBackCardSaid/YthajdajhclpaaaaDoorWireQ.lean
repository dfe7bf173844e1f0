/- Layer 1: a reader: Open, fail, close, Left, Done, Rest. -/
import Derived.Test.YthajdajhclpaaaaDoorWireL2
namespace Go.Proofs.YthajdajhclpaaaaDoor
open Go.RowKit Go.Shelf Wr

/-- The reader at block a. -/
def RdIs (w : World) (a : Nat) (r : Rd) : Prop := Row w a 78 [.string ⟨r.1.toArray⟩, .bool r.2]
theorem RdIs.lt {w : World} {a : Nat} {r : Rd} (h : RdIs w a r) : a < w.heap.size := Row.lt h
theorem RdIs.fr {w w' : World} {a : Nat} {r : Rd} {S : List Nat} (h : RdIs w a r) (hf : Fr S w w') (hn : a ∉ S) : RdIs w' a r := Row.fr h hf hn
theorem RdIs.c0 {w : World} {a : Nat} {r : Rd} (h : RdIs w a r) : w.cell? ⟨a, 0, none⟩ = some (.string ⟨r.1.toArray⟩) := by rw [Row.cell h]; rfl
theorem RdIs.c1 {w : World} {a : Nat} {r : Rd} (h : RdIs w a r) : w.cell? ⟨a, 1, none⟩ = some (.bool r.2) := by rw [Row.cell h]; rfl
theorem RdIs.z {w : World} {a : Nat} {r : Rd} (h : RdIs w a r) (i : Nat) : w.frozen? ⟨a, i, none⟩ = false := Row.frozen h i
theorem RdIs.set0 {w : World} {a : Nat} {r : Rd} (h : RdIs w a r) (l : List UInt8) (s : ByteArray) (hs : s = ⟨l.toArray⟩) : RdIs (w.setCell ⟨a, 0, none⟩ (.string s)) a (l, r.2) := by
  subst hs
  exact Row.set h 0 _
theorem RdIs.set1 {w : World} {a : Nat} {r : Rd} (h : RdIs w a r) (b : Bool) : RdIs (w.setCell ⟨a, 1, none⟩ (.bool b)) a (r.1, b) := Row.set h 1 _
theorem size_l (l : List UInt8) : (⟨l.toArray⟩ : ByteArray).size = l.length := by rw [ByteArray.size_mk', List.size_toArray]

theorem open_any (l : List UInt8) (w : World) : Calls Tryd.prog 23 #[.string ⟨l.toArray⟩] w fun e w' => ∃ a, e = .returned (.pointer (some ⟨a, 0, none⟩)) ∧ w.heap.size ≤ a ∧ RdIs w' a (l, false) ∧ Fr [] w w' := by
  go_enter Tryd.func23, Tryd.ntmps23
  go_wp2
  go_ret
  exact ⟨_, rfl, Nat.le_refl _, Row.new' _ _ _, by (repeat' (first | with_reducible exact Fr.refl _ _ | with_reducible assumption | with_reducible apply Fr.drew | with_reducible apply Fr.drewN | with_reducible apply Fr.alloc | (with_reducible refine Fr.set ?_ (.inr (by first | exact Nat.le_refl _ | exact Nat.le_succ _ | (simp; done) | (simp; omega))) _)))⟩

theorem fail_any (a : Nat) (r : Rd) (w : World) (h : RdIs w a r) : Calls Tryd.prog 67 #[.pointer (some ⟨a, 0, none⟩)] w fun e w' => e = .returned (.tuple #[]) ∧ RdIs w' a dead ∧ Fr [a] w w' := by
  have c0 := h.c0
  have c1 := h.c1
  have z0 := h.z 0
  have z1 := h.z 1
  have H := Lib.hid h
  clear h
  go_enter Tryd.func67, Tryd.ntmps67
  go_wp2
  go_end0
  exact ⟨rfl, (H.out.set0 [] _ rfl).set1 true, Fr.set (Fr.set (Fr.refl _ _) (.inl (by simp)) _) (.inl (by simp)) _⟩

theorem left_any (a : Nat) (r : Rd) (w : World) (h : RdIs w a r) (hl : r.1.length ≤ 1099511627776) : Calls Tryd.prog 30 #[.pointer (some ⟨a, 0, none⟩)] w fun e w' => e = .returned (.int .i64 r.1.length) ∧ w' = w := by
  have c0 := h.c0
  have hs := size_l r.1
  clear h
  go_enter Tryd.func30, Tryd.ntmps30
  go_wp2
  go_ret
  exact ⟨rfl, rfl⟩

theorem isEmpty_dec (l : List UInt8) : l.isEmpty = (!false && decide (l = [])) := by cases l <;> simp
theorem done_any (a : Nat) (r : Rd) (w : World) (h : RdIs w a r) : Calls Tryd.prog 31 #[.pointer (some ⟨a, 0, none⟩)] w fun e w' => e = .returned (.bool (!r.2 && decide (r.1 = []))) ∧ w' = w := by
  have c0 := h.c0
  have c1 := h.c1
  clear h
  obtain ⟨l, b⟩ := r
  cases b
  · go_enter Tryd.func31, Tryd.ntmps31
    go_wp2
    go_ret
    exact ⟨congrArg (fun b => Ending.returned (.bool b)) (isEmpty_dec l), rfl⟩
  · go_enter Tryd.func31, Tryd.ntmps31
    go_wp2
    go_ret
    exact ⟨rfl, rfl⟩

theorem rest_any (a : Nat) (r : Rd) (w : World) (h : RdIs w a r) : Calls Tryd.prog 44 #[.pointer (some ⟨a, 0, none⟩)] w fun e w' => e = .returned (.string ⟨r.1.toArray⟩) ∧ RdIs w' a ([], r.2) ∧ Fr [a] w w' := by
  have c0 := h.c0
  have z0 := h.z 0
  have H := Lib.hid h
  clear h
  go_enter Tryd.func44, Tryd.ntmps44
  go_wp2
  go_ret
  exact ⟨rfl, H.out.set0 [] _ rfl, Fr.set (Fr.refl _ _) (.inl (by simp)) _⟩

/-- A prefix of one byte. -/
theorem pre_cases (c : UInt8) (r : Rd) : (∃ t, Lib.hasPrefix r.1 [c] = true ∧ Lib.trimPrefix r.1 [c] = t ∧ rclose c r = (t, r.2)) ∨ (Lib.hasPrefix r.1 [c] = false ∧ rclose c r = dead) := by
  obtain ⟨l, b⟩ := r
  cases l with
  | nil => exact .inr ⟨rfl, rfl⟩
  | cons x t =>
    by_cases h : x = c
    · subst h
      exact .inl ⟨t, by simp [Lib.hasPrefix], by simp [Lib.trimPrefix, Lib.hasPrefix], by simp [rclose]⟩
    · refine .inr ⟨?_, by simp [rclose, h]⟩
      have hb : (c == x) = false := beq_eq_false_iff_ne.2 (Ne.symm h)
      simp [Lib.hasPrefix, List.isPrefixOf, hb]
theorem close_any (a : Nat) (r : Rd) (w : World) (h : RdIs w a r) (s : ByteArray) (c : UInt8) (hs : s = ⟨#[c]⟩) : Calls Tryd.prog 68 #[.pointer (some ⟨a, 0, none⟩), .string s] w fun e w' => e = .returned (.tuple #[]) ∧ RdIs w' a (rclose c r) ∧ Fr [a] w w' := by
  have c0 := h.c0
  have z0 := h.z 0
  have H := Lib.hid h
  have hc := Tryd.strings_CutPrefix ⟨r.1.toArray⟩ s w
  rw [show s.data.toList = [c] by rw [hs]] at hc
  rcases pre_cases c r with ⟨t, h1, h2, h3⟩ | ⟨h1, h2⟩
  · rw [show (⟨r.1.toArray⟩ : ByteArray).data.toList = r.1 from rfl, h1, h2] at hc
    have Hc := Lib.hid hc
    have H3 := Lib.hid h3
    clear h hs hc h1 h2 h3
    go_enter Tryd.func68, Tryd.ntmps68
    go_wp2_with fail
    refine Hc.out.mono ?_
    rintro e w1 ⟨rfl, rfl⟩
    go_wp2
    go_end0
    refine ⟨rfl, ?_, Fr.set (Fr.refl _ _) (.inl (by simp)) _⟩
    rw [H3.out]
    exact H.out.set0 t _ rfl
  · rw [show (⟨r.1.toArray⟩ : ByteArray).data.toList = r.1 from rfl, h1] at hc
    have Hc := Lib.hid hc
    have H3 := Lib.hid h2
    clear h hs hc h1 h2
    go_enter Tryd.func68, Tryd.ntmps68
    go_wp2_with fail
    refine Hc.out.mono ?_
    rintro e w1 ⟨rfl, rfl⟩
    go_wp2_with fail
    refine (fail_any a _ _ (H.out.set0 (Lib.trimPrefix r.1 [c]) _ rfl)).mono ?_
    rintro e w2 ⟨rfl, h4, h5⟩
    have H4 := Lib.hid h4
    have H5 := Lib.hid h5
    clear h4 h5
    go_wp2
    go_end0
    refine ⟨rfl, ?_, (Fr.set (Fr.refl _ _) (.inl (by simp)) _).trans H5.out⟩
    rw [H3.out]
    exact H4.out

end Go.Proofs.YthajdajhclpaaaaDoor
