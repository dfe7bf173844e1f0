/- The store's right and Add. -/
import Derived.Test.YtkpmfbcepkpnpaaSt
namespace Go.Proofs.Ytkpmfbcepkpnpaa
open Go.RowKit Go.Shelf

section
variable {B : Nat} {X : List Nat} {w w' : World} {a : Nat} {part first hor : Int} {v : Value} {es : List (Ev × Value)}

/-- What right says of an event. -/
def rightE (part p : Int) (s : ByteArray) (sc t : Int) : Bool := decide (p = part ∧ (s.size : Int) ≤ 200 ∧ 0 ≤ sc ∧ 0 ≤ t ∧ t ≤ 1099511627776)

set_option maxHeartbeats 4000000 in
theorem right_any (h : St B X w a part first hor v es) (p q : Int) (s : ByteArray) (sc t : Int) (A : Option Addr) (n c : Nat) :
    Calls Try.prog 24 #[.pointer (some ⟨a, 0, none⟩), .agg #[.int .i64 p, .int .i64 q, .string s, .int .i64 sc, .int .i64 t, .slice A n c]] w fun e w' => e = .returned (.bool (rightE part p s sc t)) ∧ Fr [] w w' := by
  obtain ⟨c0, _, _, _⟩ := h.cells
  have ha := h.row.lt
  have hne : w.heap.size ≠ a := by omega
  clear h
  unfold rightE
  by_cases h1 : p = part
  · subst h1
    by_cases h2 : (s.size : Int) ≤ 200
    · by_cases h3 : 0 ≤ sc
      · by_cases h4 : 0 ≤ t
        · by_cases h5 : t ≤ 1099511627776
          · rw [decide_eq_true ⟨rfl, h2, h3, h4, h5⟩]
            go_enter Try.func24, Try.ntmps24
            go_wp2_with fail
            go_quiet (fail)
            go_wp2
            go_ret
            exact ⟨rfl, by (repeat' (first | with_reducible exact Fr.refl _ _ | with_reducible assumption | with_reducible apply Fr.drew | with_reducible apply Fr.drewN | with_reducible apply Fr.alloc | (with_reducible refine Fr.set ?_ (.inr (by first | exact Nat.le_refl _ | exact Nat.le_succ _ | (simp; done) | (simp; omega))) _)))⟩
          · rw [decide_eq_false (fun h => h5 h.2.2.2.2)]
            have h5' : decide (t ≤ 1099511627776) = false := decide_eq_false h5
            go_enter Try.func24, Try.ntmps24
            go_wp2_with fail
            go_quiet (fail)
            go_wp2
            go_ret
            exact ⟨rfl, by (repeat' (first | with_reducible exact Fr.refl _ _ | with_reducible assumption | with_reducible apply Fr.drew | with_reducible apply Fr.drewN | with_reducible apply Fr.alloc | (with_reducible refine Fr.set ?_ (.inr (by first | exact Nat.le_refl _ | exact Nat.le_succ _ | (simp; done) | (simp; omega))) _)))⟩
        · rw [decide_eq_false (fun h => h4 h.2.2.2.1)]
          have h4' : decide (0 ≤ t) = false := decide_eq_false h4
          go_enter Try.func24, Try.ntmps24
          go_wp2_with fail
          go_quiet (fail)
          go_wp2
          go_ret
          exact ⟨rfl, by (repeat' (first | with_reducible exact Fr.refl _ _ | with_reducible assumption | with_reducible apply Fr.drew | with_reducible apply Fr.drewN | with_reducible apply Fr.alloc | (with_reducible refine Fr.set ?_ (.inr (by first | exact Nat.le_refl _ | exact Nat.le_succ _ | (simp; done) | (simp; omega))) _)))⟩
      · rw [decide_eq_false (fun h => h3 h.2.2.1)]
        have h3' : decide (0 ≤ sc) = false := decide_eq_false h3
        go_enter Try.func24, Try.ntmps24
        go_wp2_with fail
        go_quiet (fail)
        go_wp2
        go_ret
        exact ⟨rfl, by (repeat' (first | with_reducible exact Fr.refl _ _ | with_reducible assumption | with_reducible apply Fr.drew | with_reducible apply Fr.drewN | with_reducible apply Fr.alloc | (with_reducible refine Fr.set ?_ (.inr (by first | exact Nat.le_refl _ | exact Nat.le_succ _ | (simp; done) | (simp; omega))) _)))⟩
    · rw [decide_eq_false (fun h => h2 h.2.1)]
      have h2' : decide ((s.size : Int) ≤ 200) = false := decide_eq_false h2
      go_enter Try.func24, Try.ntmps24
      go_wp2_with fail
      go_quiet (fail)
      go_wp2
      go_ret
      exact ⟨rfl, by (repeat' (first | with_reducible exact Fr.refl _ _ | with_reducible assumption | with_reducible apply Fr.drew | with_reducible apply Fr.drewN | with_reducible apply Fr.alloc | (with_reducible refine Fr.set ?_ (.inr (by first | exact Nat.le_refl _ | exact Nat.le_succ _ | (simp; done) | (simp; omega))) _)))⟩
  · rw [decide_eq_false (fun h => h1 h.1)]
    have h1' : (p == part) = false := beq_eq_false_iff_ne.2 h1
    go_enter Try.func24, Try.ntmps24
    go_wp2_with fail
    go_quiet (fail)
    go_wp2
    go_ret
    exact ⟨rfl, by (repeat' (first | with_reducible exact Fr.refl _ _ | with_reducible assumption | with_reducible apply Fr.drew | with_reducible apply Fr.drewN | with_reducible apply Fr.alloc | (with_reducible refine Fr.set ?_ (.inr (by first | exact Nat.le_refl _ | exact Nat.le_succ _ | (simp; done) | (simp; omega))) _)))⟩

theorem next_quiet (h : St B X w a part first hor v es) (hf0 : 0 ≤ first) (hf1 : first ≤ 1099511627776) (hl : es.length ≤ 1000000) (n : Nat) :
    Calls Try.prog 15 #[.pointer (some ⟨a, 0, none⟩)] (w.drewN n) fun e w'' => e = .returned (.int .i64 (first + es.length)) ∧ ∃ m, w'' = w.drewN m :=
  Calls.quiet_of ((next_any (h.quiet ((Fr.refl [] _).drewN _)) hf0 hf1 hl).mono fun _ _ ⟨h1, _, h2⟩ => ⟨h1, h2⟩)
theorem box6 {g : Nat} {t : TypeId} {x0 x1 x2 x3 x4 x5 : Value} (h : Row w g t [x0, x1, x2, x3, x4, x5]) : w.cell? ⟨g, 0, none⟩ = some x0 ∧ w.cell? ⟨g, 1, none⟩ = some x1 ∧ w.cell? ⟨g, 2, none⟩ = some x2 ∧ w.cell? ⟨g, 3, none⟩ = some x3 ∧ w.cell? ⟨g, 4, none⟩ = some x4 ∧ w.cell? ⟨g, 5, none⟩ = some x5 :=
  ⟨by rw [h.cell]; rfl, by rw [h.cell]; rfl, by rw [h.cell]; rfl, by rw [h.cell]; rfl, by rw [h.cell]; rfl, by rw [h.cell]; rfl⟩
theorem info_ev : (Try.prog.info? 30).map (fun i => (i.zero, i.size, i.bytes)) = some (some (.agg #[.int .i64 0, .int .i64 0, .string ⟨#[]⟩, .int .i64 0, .int .i64 0, .slice none 0 0]), 6, 72) := by kernel_rfl
theorem ecells_one (es : List (Ev × Value)) (h : Rows B X w es) : ∀ u ∈ ecells es, u.oneCell' = true := by
  intro u hu
  obtain ⟨x, hx, hx2⟩ := List.mem_flatMap.1 hu
  obtain ⟨⟨A, c, hv, _⟩, _⟩ := h x hx
  simp [evCells] at hx2
  rcases hx2 with rfl | rfl | rfl | rfl | rfl | rfl <;> first | rfl | (rw [hv]; rfl)

/-- What Add says. -/
def addE (part first : Int) (n : Nat) (e : Ev) : Int :=
  if rightE part e.part e.src e.schema e.time = false then 1 else if rightRow e.row = false then 16 else if e.pos ≠ first + n then 25 else if 2000 ≤ n then 6 else 0

set_option maxHeartbeats 4000000 in
theorem add_no {X0 : List Nat} (h : St B X w a part first hor v es) (hf0 : 0 ≤ first) (hf1 : first ≤ 1099511627776) (hl : es.length ≤ 1000000) (e : Ev) (rv : Value) (hr : RV B X0 w rv e.row) (hadd : addE part first es.length e ≠ 0) :
    Calls Try.prog 10 #[.pointer (some ⟨a, 0, none⟩), .agg #[.int .i64 e.part, .int .i64 e.pos, .string e.src, .int .i64 e.schema, .int .i64 e.time, rv]] w fun x w' => x = .returned (.int .i64 (addE part first es.length e)) ∧ Fr [] w w' := by
  obtain ⟨p, q, s, sc, t, row⟩ := e
  simp only at hr ⊢
  obtain ⟨A, c, hrv⟩ : ∃ A c, rv = .slice A row.length c := by obtain ⟨A, c, h, _⟩ := hr; exact ⟨A, c, h⟩
  subst hrv
  have H := Lib.hid h
  have HR := Lib.hid hr
  have hW : Fr [] w (w.alloc (.cells #[.int .i64 p, .int .i64 q, .string s, .int .i64 sc, .int .i64 t, .slice A row.length c] 30)) := by (repeat' (first | with_reducible exact Fr.refl _ _ | with_reducible assumption | with_reducible apply Fr.drew | with_reducible apply Fr.drewN | with_reducible apply Fr.alloc | (with_reducible refine Fr.set ?_ (.inr (by first | exact Nat.le_refl _ | exact Nat.le_succ _ | (simp; done) | (simp; omega))) _)))
  have Hright := Lib.hid (right_any (h.quiet hW) p q s sc t A row.length c)
  have hbox := row_new w 30 #[.int .i64 p, .int .i64 q, .string s, .int .i64 sc, .int .i64 t, .slice A row.length c] _ rfl
  have hz : w.heap.size < (w.alloc (.cells #[.int .i64 p, .int .i64 q, .string s, .int .i64 sc, .int .i64 t, .slice A row.length c] 30)).heap.size := by simp
  have HW := Lib.hid hW
  clear h hr hW
  generalize hcode : addE part first es.length ⟨p, q, s, sc, t, row⟩ = code at *
  have Hcode : Hid (code = addE part first es.length ⟨p, q, s, sc, t, row⟩) := hcode.symm
  have Hadd := Lib.hid hadd
  clear hcode hadd
  go_enter Try.func10, Try.ntmps10
  go_wp2_with fail
  generalize w.alloc (.cells #[.int .i64 p, .int .i64 q, .string s, .int .i64 sc, .int .i64 t, .slice A row.length c] 30) = W at *
  refine Hright.out.mono ?_
  rintro e w1 ⟨rfl, hf⟩
  have r1 := hbox.fr hf (by simp)
  have HF1 := Lib.hid (HW.out.trans hf)
  have hz1 := hf.size
  clear hf hbox
  cases hE : rightE part p s sc t with
  | false =>
    have HE := Lib.hid hE
    clear hE
    go_wp2
    go_ret
    exact ⟨ret_int (by rw [Hcode.out]; simp [addE, HE.out]), HF1.out⟩
  | true =>
    have HE := Lib.hid hE
    obtain ⟨k0, k1, k2, k3, k4, k5⟩ := box6 r1
    clear hE
    go_wp2_with fail
    refine (rightRow_any (HR.out.quiet HF1.out)).mono ?_
    rintro e w2 ⟨rfl, hf⟩
    have r2 := r1.fr hf (by simp)
    have HF2 := Lib.hid (HF1.out.trans hf)
    clear hf r1 k0 k1 k2 k3 k4 k5
    cases hRR : rightRow row with
    | false =>
      have HRR := Lib.hid hRR
      clear hRR
      go_wp2
      go_ret
      exact ⟨ret_int (by rw [Hcode.out]; simp [addE, HE.out, HRR.out]), HF2.out⟩
    | true =>
      have HRR := Lib.hid hRR
      obtain ⟨k0, k1, k2, k3, k4, k5⟩ := box6 r2
      have hst := H.out.quiet HF2.out
      obtain ⟨c0, c1, c2, c3⟩ := hst.cells
      have Hst := Lib.hid hst
      have Hnq := Lib.hid (next_quiet hst hf0 hf1 hl)
      clear hRR hst
      by_cases hq : q ≠ first + es.length
      · have hq' : (q != first + es.length) = true := bne_iff_ne.2 hq
        have Hq := Lib.hid hq
        clear hq
        go_wp2_with fail
        go_quiet ((go_at_call 15; exact Hnq.out _))
        go_wp2
        go_ret
        exact ⟨ret_int (by rw [Hcode.out]; simp [addE, HE.out, HRR.out, Hq.out]), by have := HF2.out; (repeat' (first | with_reducible exact Fr.refl _ _ | with_reducible assumption | with_reducible apply Fr.drew | with_reducible apply Fr.drewN | with_reducible apply Fr.alloc | (with_reducible refine Fr.set ?_ (.inr (by first | exact Nat.le_refl _ | exact Nat.le_succ _ | (simp; done) | (simp; omega))) _)))⟩
      · have hq2 : q = first + es.length := by simpa using hq
        have hq' : (q != first + es.length) = false := by simpa using hq2
        have Hq := Lib.hid hq2
        have h2 : 2000 ≤ es.length := by
          by_cases h : 2000 ≤ es.length
          · exact h
          · exact absurd (by rw [Hcode.out]; simp [addE, HE.out, HRR.out, Hq.out, h]) Hadd.out
        have H2 := Lib.hid h2
        have h2' : (2000 : Int) ≤ (es.length : Int) := by omega
        obtain ⟨A2, cc2, hv2⟩ := H.out.form
        subst hv2
        clear hq hq2
        go_wp2_with fail
        go_quiet ((go_at_call 15; exact Hnq.out _))
        go_wp2
        go_ret
        exact ⟨ret_int (by rw [Hcode.out]; simp [addE, HE.out, HRR.out, Hq.out, H2.out]), by have := HF2.out; (repeat' (first | with_reducible exact Fr.refl _ _ | with_reducible assumption | with_reducible apply Fr.drew | with_reducible apply Fr.drewN | with_reducible apply Fr.alloc | (with_reducible refine Fr.set ?_ (.inr (by first | exact Nat.le_refl _ | exact Nat.le_succ _ | (simp; done) | (simp; omega))) _)))⟩

end

end Go.Proofs.Ytkpmfbcepkpnpaa
