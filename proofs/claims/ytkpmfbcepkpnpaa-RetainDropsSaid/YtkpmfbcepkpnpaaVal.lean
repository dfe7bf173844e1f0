/- Package value: right values and rows; rows in memory. -/
import Derived.Test.YtkpmfbcepkpnpaaMem
import Derived.Test.YtkpmfbcepkpnpaaChecked
import Derived.Laws.StructEq
import Derived.Deep.RegionHeld3
import Derived.Deep.RegionWith
namespace Go.Proofs.Ytkpmfbcepkpnpaa
open Go.RowKit

/-- A value: its kind, its number, its text. -/
structure Vl where
  k : Int
  n : Int
  s : ByteArray
instance : Inhabited Vl := ⟨⟨0, 0, ⟨#[]⟩⟩⟩
def encV (x : Vl) : List Value := [.int .i64 x.k, .int .i64 x.n, .string x.s]
def vcells (r : List Vl) : List Value := r.flatMap encV

theorem flat_at {α : Type} (f : α → List Value) (k : Nat) (hk : ∀ x, (f x).length = k) (l : List α) (j : Nat) (x : α) (h : l[j]? = some x) (i : Nat) (u : Value) (hi : (f x)[i]? = some u) : (l.flatMap f)[j * k + i]? = some u := by
  induction l generalizing j with
  | nil => simp at h
  | cons y l ih =>
    cases j with
    | zero =>
      simp at h
      subst h
      rw [List.flatMap_cons, List.getElem?_append_left (by have := (List.getElem?_eq_some_iff.1 hi).1; omega)]
      simpa using hi
    | succ j =>
      rw [List.flatMap_cons, List.getElem?_append_right (by rw [hk, Nat.succ_mul]; omega), hk, show (j + 1) * k + i - k = j * k + i by rw [Nat.succ_mul]; omega]
      exact ih j (by simpa using h)
theorem flat_len {α : Type} (f : α → List Value) (k : Nat) (hk : ∀ x, (f x).length = k) (l : List α) : (l.flatMap f).length = l.length * k := by
  induction l with
  | nil => simp
  | cons y l ih => rw [List.flatMap_cons, List.length_append, ih, hk, List.length_cons, Nat.succ_mul]; omega
theorem vcells_at (l : List Vl) (j : Nat) (x : Vl) (h : l[j]? = some x) : (vcells l)[j * 3]? = some (.int .i64 x.k) ∧ (vcells l)[j * 3 + 1]? = some (.int .i64 x.n) ∧ (vcells l)[j * 3 + 2]? = some (.string x.s) :=
  ⟨flat_at encV 3 (fun _ => rfl) l j x h 0 _ rfl, flat_at encV 3 (fun _ => rfl) l j x h 1 _ rfl, flat_at encV 3 (fun _ => rfl) l j x h 2 _ rfl⟩

/-- Where the cells of a slice that came in, or lies elsewhere, are. -/
def Came (w : World) (b off : Nat) (cells : List Value) : Prop := b < w.heap.size ∧ ∀ j u, cells[j]? = some u → w.cell? ⟨b, off + j, none⟩ = some u
theorem Came.of_block {w w' : World} {b off : Nat} {cells : List Value} (h : Came w b off cells) (hs : w.heap.size ≤ w'.heap.size) (hb : w'.heap[b]? = w.heap[b]?) : Came w' b off cells :=
  ⟨Nat.lt_of_lt_of_le h.1 hs, fun j u hu => (World.cell?_of_block (a := ⟨b, off + j, none⟩) hb).trans (h.2 j u hu)⟩
theorem Came.below {w w' : World} {b off B : Nat} {cells : List Value} (h : Came w b off cells) (hb : Below B w w') (hB : b < B) : Came w' b off cells := h.of_block hb.size (hb.block b hB)

/-- What value.Right says. -/
def rightV (x : Vl) : Bool := if x.k = 0 then x.s.toList == [] else if x.k = 1 then x.n == 0 && decide ((x.s.size : Int) ≤ 200) else x.k == 2 && (x.n == 0 || x.n == 1) && x.s.toList == []
def eqV (x y : Vl) : Bool := x.k == y.k && (x.n == y.n && x.s.toList == y.s.toList)

theorem eq_vals (x y : Vl) (w : World) : (binOp .eql 44 (.agg (encV x).toArray) (.agg (encV y).toArray)).run Try.prog w = .ok (.bool (eqV x y)) w := by
  have u3 := Try.underlying3
  have a3 := Try.isAgg3
  have z3 := Try.sizeOf3
  have u9 := Try.underlying9
  have a9 := Try.isAgg9
  have z9 := Try.sizeOf9
  have hS : Try.prog.underlying 44 = some (.struct (Try.prog.fieldsOf 44)) := by kernel_rfl
  have hp : Try.prog.stoodInHeld 44 = false := by kernel_rfl
  simp only [encV, eqV]
  rw [run_eql_struct, show (10000 : Nat) = 9999 + 1 from rfl, run_equalIn_agg w 9999 44 _ _ hS hp]
  simp only [Program.fieldsOf, Try.underlying44]
  go_simp
  by_cases h1 : x.k = y.k <;> by_cases h2 : x.n = y.n <;> simp [h1, h2]
  all_goals (try (split <;> simp_all))

theorem results_cell {fn : Func} {p : Tmp} {ty : TypeId} (h : fn.results = #[.cell p ty]) (tmps : Array Value) (P : Program) (w : World) :
    (results fn tmps).run P w = ((asAddr (tmps.getD p undef)).run P w).andThen fun a w₁ => (loadVar ty a).run P w₁ := by
  simp only [results, h]
  simp [Sem.run_bind, Result.andThen]
/-- A return of a struct: the result lies in a block of its own. -/
theorem post_cell {P : Program} {fn : Func} {R : Ending → World → Prop} {a : Act} {w : World} {v : Value} {p : Tmp} {ty : TypeId} {ad : Addr} (h : fn.results = #[.cell p ty]) (ha : a.tmps.getD p undef = .pointer (some ad))
    (hl : (loadVar ty ad).run P w = .ok v w) (hd : a.defers = []) (hR : R (.returned v) w) : bodyPost P fn R .ret a w := by
  refine bodyPost_ret (v := v) ?_ hd hR
  rw [results_cell h, ha]
  simp [asAddr, Result.andThen, hl]

theorem int_val (n : Int) (w : World) : Calls Try.prog 41 #[.int .i64 n] w fun e w' => e = .returned (.agg #[.int .i64 0, .int .i64 n, .string ⟨#[]⟩]) ∧ Fr [] w w' := by
  have a44 := Try.isAgg44
  have z44 := Try.sizeOf44
  go_enter Try.func41, Try.ntmps41
  go_wp2
  try simp only [Exit.inBlock, Exit.then]
  refine post_cell rfl rfl (v := .agg #[.int .i64 0, .int .i64 n, .string ⟨#[]⟩]) ?_ rfl ⟨rfl, ?_⟩
  · simp [loadVar, a44, z44]
    go_simp
  · (repeat' (first | with_reducible exact Fr.refl _ _ | with_reducible assumption | with_reducible apply Fr.drew | with_reducible apply Fr.drewN | with_reducible apply Fr.alloc | (with_reducible refine Fr.set ?_ (.inr (by first | exact Nat.le_refl _ | exact Nat.le_succ _ | (simp; done) | (simp; omega))) _)))

theorem text_val (s : ByteArray) (w : World) : Calls Try.prog 42 #[.string s] w fun e w' => e = .returned (.agg #[.int .i64 1, .int .i64 0, .string s]) ∧ Fr [] w w' := by
  have a44 := Try.isAgg44
  have z44 := Try.sizeOf44
  go_enter Try.func42, Try.ntmps42
  go_wp2
  try simp only [Exit.inBlock, Exit.then]
  refine post_cell rfl rfl (v := .agg #[.int .i64 1, .int .i64 0, .string s]) ?_ rfl ⟨rfl, ?_⟩
  · simp [loadVar, a44, z44]
    go_simp
  · (repeat' (first | with_reducible exact Fr.refl _ _ | with_reducible assumption | with_reducible apply Fr.drew | with_reducible apply Fr.drewN | with_reducible apply Fr.alloc | (with_reducible refine Fr.set ?_ (.inr (by first | exact Nat.le_refl _ | exact Nat.le_succ _ | (simp; done) | (simp; omega))) _)))
theorem bool_val (b : Bool) (w : World) : Calls Try.prog 43 #[.bool b] w fun e w' => e = .returned (.agg #[.int .i64 2, .int .i64 (if b then 1 else 0), .string ⟨#[]⟩]) ∧ Fr [] w w' := by
  have a44 := Try.isAgg44
  have z44 := Try.sizeOf44
  cases b
  all_goals
    go_enter Try.func43, Try.ntmps43
    go_wp2
    try simp only [Exit.inBlock, Exit.then]
    refine post_cell rfl rfl (v := .agg #[.int .i64 2, .int .i64 _, .string ⟨#[]⟩]) ?_ rfl ⟨rfl, ?_⟩
    · simp [loadVar, a44, z44]
      go_simp
    · (repeat' (first | with_reducible exact Fr.refl _ _ | with_reducible assumption | with_reducible apply Fr.drew | with_reducible apply Fr.drewN | with_reducible apply Fr.alloc | (with_reducible refine Fr.set ?_ (.inr (by first | exact Nat.le_refl _ | exact Nat.le_succ _ | (simp; done) | (simp; omega))) _)))

set_option maxHeartbeats 2000000 in
theorem right_val (x : Vl) (w : World) : Calls Try.prog 39 #[.agg #[.int .i64 x.k, .int .i64 x.n, .string x.s]] w fun e w' => e = .returned (.bool (rightV x)) ∧ Fr [] w w' := by
  obtain ⟨k, n, s⟩ := x
  have e0 := fun (y : Vl) (w : World) => eq_vals ⟨k, n, s⟩ y w
  simp only [encV] at e0
  by_cases h0 : k = 0
  · subst h0
    have e1 := e0 ⟨0, n, ⟨#[]⟩⟩
    have hv : eqV ⟨0, n, s⟩ ⟨0, n, ⟨#[]⟩⟩ = rightV ⟨0, n, s⟩ := by simp [eqV, rightV]
    rw [hv] at e1
    clear e0
    generalize rightV ⟨0, n, s⟩ = r at *
    clear hv
    go_enter Try.func39, Try.ntmps39
    go_wp2
    have c0 : (w.alloc (Obj.cells #[Value.int IntKind.i64 0, Value.int IntKind.i64 n, Value.string s] 44)).cell? ⟨w.heap.size, 0, none⟩ = some (.int .i64 0) := by simp
    have c1 : (w.alloc (Obj.cells #[Value.int IntKind.i64 0, Value.int IntKind.i64 n, Value.string s] 44)).cell? ⟨w.heap.size, 1, none⟩ = some (.int .i64 n) := by simp
    have c2 : (w.alloc (Obj.cells #[Value.int IntKind.i64 0, Value.int IntKind.i64 n, Value.string s] 44)).cell? ⟨w.heap.size, 2, none⟩ = some (.string s) := by simp
    have hf0 : Fr [] w (w.alloc (Obj.cells #[Value.int IntKind.i64 0, Value.int IntKind.i64 n, Value.string s] 44)) := by (repeat' (first | with_reducible exact Fr.refl _ _ | with_reducible assumption | with_reducible apply Fr.drew | with_reducible apply Fr.drewN | with_reducible apply Fr.alloc | (with_reducible refine Fr.set ?_ (.inr (by first | exact Nat.le_refl _ | exact Nat.le_succ _ | (simp; done) | (simp; omega))) _)))
    have hlt : w.heap.size < (w.alloc (Obj.cells #[Value.int IntKind.i64 0, Value.int IntKind.i64 n, Value.string s] 44)).heap.size := by simp
    generalize w.alloc (Obj.cells #[Value.int IntKind.i64 0, Value.int IntKind.i64 n, Value.string s] 44) = W at *
    have Hf0 := Lib.hid hf0
    clear hf0
    generalize hB : w.heap.size = B at *
    have HB := Lib.hid hB
    clear hB
    go_region_held3 (fun w' => w'.cell? ⟨B, 0, none⟩ = some (.int .i64 0) ∧ w'.cell? ⟨B, 1, none⟩ = some (.int .i64 n) ∧ w'.cell? ⟨B, 2, none⟩ = some (.string s)) (go_keep)
      (first
        | (go_at_call_of 41 (Value.int .i64 n)
           refine (int_val n _).mono ?_
           rintro e w1 ⟨rfl, hf1⟩
           have d00 : w1.cell? ⟨B, 0, none⟩ = some (.int .i64 0) := (hf1.cell hlt (by simp)).trans c0
           have d01 : w1.cell? ⟨B, 1, none⟩ = some (.int .i64 n) := (hf1.cell hlt (by simp)).trans c1
           have d02 : w1.cell? ⟨B, 2, none⟩ = some (.string s) := (hf1.cell hlt (by simp)).trans c2
           have hlt0 : B < w1.heap.size := Nat.lt_of_lt_of_le hlt hf1.size
           have Hf1 : Hid (Fr [] w w1) := by first | exact Hf0.out.trans hf1 | exact Hf0.out.drew.trans hf1
           clear hf1))
    all_goals
      go_wp2
      go_ret
      exact ⟨rfl, by first | exact Hf1.out | exact Hf1.out.drew | exact (Hf1.out.drewN _)⟩
  · by_cases h1 : k = 1
    · subst h1
      have e1 := e0 ⟨1, 0, s⟩
      clear e0 h0
      by_cases hn : n = 0
      · subst hn
        have hv : eqV ⟨1, 0, s⟩ ⟨1, 0, s⟩ = true := by simp [eqV]
        have hr : rightV ⟨1, 0, s⟩ = decide ((s.size : Int) ≤ 200) := by simp [rightV]
        rw [hv] at e1
        rw [hr]
        clear hv hr
        generalize hd : decide ((s.size : Int) ≤ 200) = dd at *
        go_enter Try.func39, Try.ntmps39
        go_wp2
        have c0 : (w.alloc (Obj.cells #[Value.int IntKind.i64 1, Value.int IntKind.i64 0, Value.string s] 44)).cell? ⟨w.heap.size, 0, none⟩ = some (.int .i64 1) := by simp
        have c1 : (w.alloc (Obj.cells #[Value.int IntKind.i64 1, Value.int IntKind.i64 0, Value.string s] 44)).cell? ⟨w.heap.size, 1, none⟩ = some (.int .i64 0) := by simp
        have c2 : (w.alloc (Obj.cells #[Value.int IntKind.i64 1, Value.int IntKind.i64 0, Value.string s] 44)).cell? ⟨w.heap.size, 2, none⟩ = some (.string s) := by simp
        have hf0 : Fr [] w (w.alloc (Obj.cells #[Value.int IntKind.i64 1, Value.int IntKind.i64 0, Value.string s] 44)) := by (repeat' (first | with_reducible exact Fr.refl _ _ | with_reducible assumption | with_reducible apply Fr.drew | with_reducible apply Fr.drewN | with_reducible apply Fr.alloc | (with_reducible refine Fr.set ?_ (.inr (by first | exact Nat.le_refl _ | exact Nat.le_succ _ | (simp; done) | (simp; omega))) _)))
        have hlt : w.heap.size < (w.alloc (Obj.cells #[Value.int IntKind.i64 1, Value.int IntKind.i64 0, Value.string s] 44)).heap.size := by simp
        generalize w.alloc (Obj.cells #[Value.int IntKind.i64 1, Value.int IntKind.i64 0, Value.string s] 44) = W at *
        have Hf0 := Lib.hid hf0
        clear hf0
        generalize hB : w.heap.size = B at *
        have HB := Lib.hid hB
        clear hB
        go_region_held3 (fun w' => w'.cell? ⟨B, 0, none⟩ = some (.int .i64 1) ∧ w'.cell? ⟨B, 1, none⟩ = some (.int .i64 0) ∧ w'.cell? ⟨B, 2, none⟩ = some (.string s)) (go_keep)
          (first
            | (go_at_call_of 42 (Value.string s)
               refine (text_val s _).mono ?_
               rintro e w1 ⟨rfl, hf1⟩
               have d00 : w1.cell? ⟨B, 0, none⟩ = some (.int .i64 1) := (hf1.cell hlt (by simp)).trans c0
               have d01 : w1.cell? ⟨B, 1, none⟩ = some (.int .i64 0) := (hf1.cell hlt (by simp)).trans c1
               have d02 : w1.cell? ⟨B, 2, none⟩ = some (.string s) := (hf1.cell hlt (by simp)).trans c2
               have hlt0 : B < w1.heap.size := Nat.lt_of_lt_of_le hlt hf1.size
               have Hf1 : Hid (Fr [] w w1) := by first | exact Hf0.out.trans hf1 | exact Hf0.out.drew.trans hf1
               clear hf1))
        all_goals
          go_wp2
          go_ret
          exact ⟨rfl, by first | exact Hf1.out | exact Hf1.out.drew | exact (Hf1.out.drewN _)⟩
      · have hv : eqV ⟨1, n, s⟩ ⟨1, 0, s⟩ = false := by simp [eqV, hn]
        have hr : rightV ⟨1, n, s⟩ = false := by simp [rightV, hn]
        rw [hv] at e1
        rw [hr]
        clear hv hr hn
        go_enter Try.func39, Try.ntmps39
        go_wp2
        have c0 : (w.alloc (Obj.cells #[Value.int IntKind.i64 1, Value.int IntKind.i64 n, Value.string s] 44)).cell? ⟨w.heap.size, 0, none⟩ = some (.int .i64 1) := by simp
        have c1 : (w.alloc (Obj.cells #[Value.int IntKind.i64 1, Value.int IntKind.i64 n, Value.string s] 44)).cell? ⟨w.heap.size, 1, none⟩ = some (.int .i64 n) := by simp
        have c2 : (w.alloc (Obj.cells #[Value.int IntKind.i64 1, Value.int IntKind.i64 n, Value.string s] 44)).cell? ⟨w.heap.size, 2, none⟩ = some (.string s) := by simp
        have hf0 : Fr [] w (w.alloc (Obj.cells #[Value.int IntKind.i64 1, Value.int IntKind.i64 n, Value.string s] 44)) := by (repeat' (first | with_reducible exact Fr.refl _ _ | with_reducible assumption | with_reducible apply Fr.drew | with_reducible apply Fr.drewN | with_reducible apply Fr.alloc | (with_reducible refine Fr.set ?_ (.inr (by first | exact Nat.le_refl _ | exact Nat.le_succ _ | (simp; done) | (simp; omega))) _)))
        have hlt : w.heap.size < (w.alloc (Obj.cells #[Value.int IntKind.i64 1, Value.int IntKind.i64 n, Value.string s] 44)).heap.size := by simp
        generalize w.alloc (Obj.cells #[Value.int IntKind.i64 1, Value.int IntKind.i64 n, Value.string s] 44) = W at *
        have Hf0 := Lib.hid hf0
        clear hf0
        generalize hB : w.heap.size = B at *
        have HB := Lib.hid hB
        clear hB
        first
        | go_region_with (first
            | (go_at_call_of 42 (Value.string s)
               refine (text_val s _).mono ?_
               rintro e w1 ⟨rfl, hf1⟩
               have d00 : w1.cell? ⟨B, 0, none⟩ = some (.int .i64 1) := (hf1.cell hlt (by simp)).trans c0
               have d01 : w1.cell? ⟨B, 1, none⟩ = some (.int .i64 n) := (hf1.cell hlt (by simp)).trans c1
               have d02 : w1.cell? ⟨B, 2, none⟩ = some (.string s) := (hf1.cell hlt (by simp)).trans c2
               have hlt0 : B < w1.heap.size := Nat.lt_of_lt_of_le hlt hf1.size
               have Hf1 : Hid (Fr [] w w1) := by first | exact Hf0.out.trans hf1 | exact Hf0.out.drew.trans hf1
               clear hf1))
        | fail
        all_goals
          go_wp2
          go_ret
          exact ⟨rfl, by first | exact Hf1.out | exact Hf1.out.drew | exact (Hf1.out.drewN _)⟩
    · have e1 := e0 ⟨2, 0, ⟨#[]⟩⟩
      have e2 := e0 ⟨2, 1, ⟨#[]⟩⟩
      clear e0
      have hr : rightV ⟨k, n, s⟩ = (eqV ⟨k, n, s⟩ ⟨2, 0, ⟨#[]⟩⟩ || eqV ⟨k, n, s⟩ ⟨2, 1, ⟨#[]⟩⟩) := by
        simp only [rightV, eqV, h0, h1, if_false]
        cases (k == 2) <;> cases (n == 0) <;> cases (n == 1) <;> simp
      have q0 : (k == 0) = false := beq_eq_false_iff_ne.2 h0
      have q1 : (k == 1) = false := beq_eq_false_iff_ne.2 h1
      rw [hr]
      clear hr h0 h1
      cases hh : eqV ⟨k, n, s⟩ ⟨2, 0, ⟨#[]⟩⟩ with
      | true =>
        rw [hh] at e1
        clear hh e2
        rw [Bool.true_or]
        go_enter Try.func39, Try.ntmps39
        go_wp2
        have c0 : (w.alloc (Obj.cells #[Value.int IntKind.i64 k, Value.int IntKind.i64 n, Value.string s] 44)).cell? ⟨w.heap.size, 0, none⟩ = some (.int .i64 k) := by simp
        have c1 : (w.alloc (Obj.cells #[Value.int IntKind.i64 k, Value.int IntKind.i64 n, Value.string s] 44)).cell? ⟨w.heap.size, 1, none⟩ = some (.int .i64 n) := by simp
        have c2 : (w.alloc (Obj.cells #[Value.int IntKind.i64 k, Value.int IntKind.i64 n, Value.string s] 44)).cell? ⟨w.heap.size, 2, none⟩ = some (.string s) := by simp
        have hf0 : Fr [] w (w.alloc (Obj.cells #[Value.int IntKind.i64 k, Value.int IntKind.i64 n, Value.string s] 44)) := by (repeat' (first | with_reducible exact Fr.refl _ _ | with_reducible assumption | with_reducible apply Fr.drew | with_reducible apply Fr.drewN | with_reducible apply Fr.alloc | (with_reducible refine Fr.set ?_ (.inr (by first | exact Nat.le_refl _ | exact Nat.le_succ _ | (simp; done) | (simp; omega))) _)))
        have hlt : w.heap.size < (w.alloc (Obj.cells #[Value.int IntKind.i64 k, Value.int IntKind.i64 n, Value.string s] 44)).heap.size := by simp
        generalize w.alloc (Obj.cells #[Value.int IntKind.i64 k, Value.int IntKind.i64 n, Value.string s] 44) = W at *
        have Hf0 := Lib.hid hf0
        clear hf0
        generalize hB : w.heap.size = B at *
        have HB := Lib.hid hB
        clear hB
        first
        | go_region_with (first
            | (go_at_call_of 43 (Value.bool false)
               refine (bool_val false _).mono ?_
               rintro e w1 ⟨rfl, hf1⟩
               have d00 : w1.cell? ⟨B, 0, none⟩ = some (.int .i64 k) := (hf1.cell hlt (by simp)).trans c0
               have d01 : w1.cell? ⟨B, 1, none⟩ = some (.int .i64 n) := (hf1.cell hlt (by simp)).trans c1
               have d02 : w1.cell? ⟨B, 2, none⟩ = some (.string s) := (hf1.cell hlt (by simp)).trans c2
               have hlt0 : B < w1.heap.size := Nat.lt_of_lt_of_le hlt hf1.size
               have Hf1 : Hid (Fr [] w w1) := by first | exact Hf0.out.trans hf1 | exact Hf0.out.drew.trans hf1
               clear hf1))
        | fail
        all_goals
          go_wp2
          go_ret
          exact ⟨rfl, by first | exact Hf1.out | exact Hf1.out.drew | exact (Hf1.out.drewN _)⟩
      | false =>
        rw [hh] at e1
        clear hh
        rw [Bool.false_or]
        generalize eqV ⟨k, n, s⟩ ⟨2, 1, ⟨#[]⟩⟩ = r at *
        go_enter Try.func39, Try.ntmps39
        go_wp2
        have c0 : (w.alloc (Obj.cells #[Value.int IntKind.i64 k, Value.int IntKind.i64 n, Value.string s] 44)).cell? ⟨w.heap.size, 0, none⟩ = some (.int .i64 k) := by simp
        have c1 : (w.alloc (Obj.cells #[Value.int IntKind.i64 k, Value.int IntKind.i64 n, Value.string s] 44)).cell? ⟨w.heap.size, 1, none⟩ = some (.int .i64 n) := by simp
        have c2 : (w.alloc (Obj.cells #[Value.int IntKind.i64 k, Value.int IntKind.i64 n, Value.string s] 44)).cell? ⟨w.heap.size, 2, none⟩ = some (.string s) := by simp
        have hf0 : Fr [] w (w.alloc (Obj.cells #[Value.int IntKind.i64 k, Value.int IntKind.i64 n, Value.string s] 44)) := by (repeat' (first | with_reducible exact Fr.refl _ _ | with_reducible assumption | with_reducible apply Fr.drew | with_reducible apply Fr.drewN | with_reducible apply Fr.alloc | (with_reducible refine Fr.set ?_ (.inr (by first | exact Nat.le_refl _ | exact Nat.le_succ _ | (simp; done) | (simp; omega))) _)))
        have hlt : w.heap.size < (w.alloc (Obj.cells #[Value.int IntKind.i64 k, Value.int IntKind.i64 n, Value.string s] 44)).heap.size := by simp
        generalize w.alloc (Obj.cells #[Value.int IntKind.i64 k, Value.int IntKind.i64 n, Value.string s] 44) = W at *
        have Hf0 := Lib.hid hf0
        clear hf0
        generalize hB : w.heap.size = B at *
        have HB := Lib.hid hB
        clear hB
        go_region_held3 (fun w' => w'.cell? ⟨B, 0, none⟩ = some (.int .i64 k) ∧ w'.cell? ⟨B, 1, none⟩ = some (.int .i64 n) ∧ w'.cell? ⟨B, 2, none⟩ = some (.string s)) (go_keep)
          (first
            | (go_at_call_of 43 (Value.bool false)
               refine (bool_val false _).mono ?_
               rintro e w1 ⟨rfl, hf1⟩
               have d00 : w1.cell? ⟨B, 0, none⟩ = some (.int .i64 k) := (hf1.cell hlt (by simp)).trans c0
               have d01 : w1.cell? ⟨B, 1, none⟩ = some (.int .i64 n) := (hf1.cell hlt (by simp)).trans c1
               have d02 : w1.cell? ⟨B, 2, none⟩ = some (.string s) := (hf1.cell hlt (by simp)).trans c2
               have hlt0 : B < w1.heap.size := Nat.lt_of_lt_of_le hlt hf1.size
               have Hf1 : Hid (Fr [] w w1) := by first | exact Hf0.out.trans hf1 | exact Hf0.out.drew.trans hf1
               clear hf1)
            | (go_at_call_of 43 (Value.bool true)
               refine (bool_val true _).mono ?_
               rintro e w2 ⟨rfl, hf1⟩
               have d10 : w2.cell? ⟨B, 0, none⟩ = some (.int .i64 k) := (hf1.cell hlt0 (by simp)).trans d00
               have d11 : w2.cell? ⟨B, 1, none⟩ = some (.int .i64 n) := (hf1.cell hlt0 (by simp)).trans d01
               have d12 : w2.cell? ⟨B, 2, none⟩ = some (.string s) := (hf1.cell hlt0 (by simp)).trans d02
               have hlt1 : B < w2.heap.size := Nat.lt_of_lt_of_le hlt0 hf1.size
               have Hf2 : Hid (Fr [] w w2) := by first | exact Hf1.out.trans hf1 | exact Hf1.out.drew.trans hf1
               clear hf1))
        all_goals
          go_wp2
          go_ret
          exact ⟨rfl, by first | exact Hf2.out | exact Hf2.out.drew | exact (Hf2.out.drewN _)⟩

end Go.Proofs.Ytkpmfbcepkpnpaa
