/- The argument '[]Op' of layer 35's laws, opened; the operations as a list. -/
import Derived.Test.YthajdajhclpaaaaDoorMk5
import Derived.Test.YthajdajhclpaaaaDoorRowKit
namespace Go.Proofs.YthajdajhclpaaaaDoor
open Go.RowKit Go.ChangeShapes Go.WideShapes Go.ChangeAt

theorem cells_op : Tryd.prog.cellsOf 57 = 3 := by kernel_rfl
theorem laidOut : laidOutB Tryd.prog = true := by kernel_rfl

theorem opCells_of (l : List (Int × Int × Int)) (f : Nat → Option Value) (h : ∀ i, (hi : i < l.length) → f (i * 3) = some (.int .i64 l[i].1) ∧ f (i * 3 + 1) = some (.int .i64 l[i].2.1) ∧ f (i * 3 + 2) = some (.int .i64 l[i].2.2)) :
    ∀ j u, (opCells l)[j]? = some u → f j = some u := by
  intro j u hu
  have hlen : (opCells l).length = l.length * 3 := by
    clear hu h
    unfold opCells
    induction l with
    | nil => rfl
    | cons x l ih => simp at ih ⊢; omega
  have hj : j < l.length * 3 := by rw [← hlen]; exact (List.getElem?_eq_some_iff.1 hu).1
  have hi : j / 3 < l.length := by omega
  obtain ⟨x0, x1, x2⟩ := opCells_at l (j / 3) hi
  obtain ⟨y0, y1, y2⟩ := h (j / 3) hi
  rcases (show j = j / 3 * 3 ∨ j = j / 3 * 3 + 1 ∨ j = j / 3 * 3 + 2 by omega) with e | e | e
  · rw [e] at hu ⊢; rw [x0] at hu; rw [y0]; exact hu
  · rw [e] at hu ⊢; rw [x1] at hu; rw [y1]; exact hu
  · rw [e] at hu ⊢; rw [x2] at hu; rw [y2]; exact hu

theorem open_ops {H : Type} {enc : TypeId × Value → H} {W : World} {a0 : Option Addr} {len cap fuel : Nat} {d : DataW H} {p : List MemPlace}
    (h : DataW.trod enc Tryd.prog W 0 (fun _ => true) true fuel 51 [.slice a0 len cap] = some (d, p)) (hlt : ∀ x ∈ p, x.block < W.heap.size) :
    ∃ l : List (Int × Int × Int), l.length = len ∧ (0 < l.length → ∃ b off, a0 = some ⟨b, off, none⟩ ∧ Came W b off (opCells l)) := by
  rcases open_slice_fields Tryd.underlying51 Tryd.underlying57 (by kernel_rfl) cells_op h with ⟨hcs, _⟩ | ⟨a, len', cap', m, D, Pl, hcs, _, hl, hm, hmm, hx, hi⟩
  · injection hcs with hcs
    injection hcs with h1 h2 h3
    subst h1 h2
    exact ⟨[], rfl, fun h => absurd h (by simp)⟩
  · injection hcs with hcs
    injection hcs with h1 h2 h3
    subst h1 h2
    simp only [if_true] at hmm
    obtain ⟨l, hll, hp⟩ := choose_list (α := Int × Int × Int) len (fun i x => W.cell? (a.add (i * 3)) = some (.int .i64 x.1) ∧ W.cell? (a.add (i * 3 + 1)) = some (.int .i64 x.2.1) ∧ W.cell? (a.add (i * 3 + 2)) = some (.int .i64 x.2.2)) (by
      intro i hi'
      obtain ⟨ys, n, _, _, _, hf⟩ := hi i (by omega)
      obtain ⟨v0, y0, c0, _, t0⟩ := hf 0 _ rfl
      obtain ⟨v1, y1, c1, _, t1⟩ := hf 1 _ rfl
      obtain ⟨v2, y2, c2, _, t2⟩ := hf 2 _ rfl
      obtain ⟨x0, e0, _, _⟩ := DataW.trod_int Tryd.underlying3 t0
      obtain ⟨x1, e1, _, _⟩ := DataW.trod_int Tryd.underlying3 t1
      obtain ⟨x2, e2, _, _⟩ := DataW.trod_int Tryd.underlying3 t2
      simp only [List.cons.injEq, and_true] at e0 e1 e2
      subst e0 e1 e2
      exact ⟨(x0, x1, x2), c0, c1, c2⟩)
    refine ⟨l, hll, fun hpos => ?_⟩
    obtain ⟨b, off, spot⟩ := a
    have hspot : spot = none := by simpa [Addr.add] using World.cell?_spot (hp 0 hpos).1
    subst hspot
    have hb : b < W.heap.size := by
      refine hlt (.cell b off) ?_
      simp only [Prod.mk.injEq] at hx
      rw [hx.2]
      exact List.mem_append_left _ (MemPlace.mem_row.2 ⟨0, by simp; omega, by simp⟩)
    have hadd : ∀ j, (⟨b, off, none⟩ : Addr).add j = ⟨b, off + j, none⟩ := by intro j; unfold Addr.add; split <;> simp_all
    refine ⟨b, off, rfl, hb, opCells_of l (fun j => W.cell? ⟨b, off + j, none⟩) (fun i hi' => ?_)⟩
    have := hp i hi'
    simpa [hadd] using this

end Go.Proofs.YthajdajhclpaaaaDoor
