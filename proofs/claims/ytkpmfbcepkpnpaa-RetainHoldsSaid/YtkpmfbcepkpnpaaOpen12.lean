/- The arguments of layer 12's laws, opened: rows of values, events, operations. -/
import Derived.Test.YtkpmfbcepkpnpaaOps12
import Derived.Test.YtkpmfbcepkpnpaaRowKit
namespace Go.Proofs.Ytkpmfbcepkpnpaa
open Go.RowKit Go.ChangeShapes Go.WideShapes Go.ChangeAt Go.Deep

section
variable {H : Type} {enc : TypeId × Value → H} {W : World}
/-- A struct that is read: each field by itself. -/
theorem struct_fields {P : Program} {t : TypeId} {fs : Array Field} {fuel : Nat} {cs : List Value} {x : DataW H × List MemPlace} (ht : P.underlying t = some (.struct fs)) (h : DataW.trod enc P W 0 (fun _ => true) true fuel t cs = some x) (hlt : ∀ p ∈ x.2, p.block < W.heap.size) :
    cs.length = P.cellsOf t ∧ ∃ n, ∀ (i : Nat) (f : Field), fs[i]? = some f → ∃ y, DataW.trod enc P W 0 (fun _ => true) true n f.type ((cs.drop f.offset).take (P.cellsOf f.type)) = some y ∧ ∀ p ∈ y.2, p.block < W.heap.size := by
  obtain ⟨xs, n, _, hx, hl, hlen, hf⟩ := DataW.trod_struct ht h
  refine ⟨hl, n, fun i f hi => ?_⟩
  have hil : i < xs.length := by rw [hlen]; exact (Array.getElem?_eq_some_iff.1 hi).1
  refine ⟨xs[i], (hf i f hi).trans (List.getElem?_eq_getElem hil), fun p hp => hlt p ?_⟩
  rw [hx]
  exact List.mem_flatMap.2 ⟨xs[i], List.getElem_mem hil, hp⟩
theorem int1 {P : Program} {t : TypeId} {k : IntKind} {fuel : Nat} {v : Value} {x : DataW H × List MemPlace} (ht : P.underlying t = some (.int k)) (h : DataW.trod enc P W 0 (fun _ => true) true fuel t [v] = some x) : ∃ n, v = .int k n ∧ (Lit.int k n).wf = true := by
  obtain ⟨n, h1, _, h2⟩ := DataW.trod_int ht h
  exact ⟨n, (List.cons.inj h1).1, h2⟩
theorem str1 {P : Program} {t : TypeId} {fuel : Nat} {v : Value} {x : DataW H × List MemPlace} (ht : P.underlying t = some .string) (h : DataW.trod enc P W 0 (fun _ => true) true fuel t [v] = some x) : ∃ s : ByteArray, v = .string s ∧ s.size ≤ maxLen := by
  obtain ⟨n, h1, _, h2⟩ := DataW.trod_string ht h
  exact ⟨n, (List.cons.inj h1).1, h2⟩
theorem bool1 {P : Program} {t : TypeId} {fuel : Nat} {v : Value} {x : DataW H × List MemPlace} (ht : P.underlying t = some .bool) (h : DataW.trod enc P W 0 (fun _ => true) true fuel t [v] = some x) : ∃ b, v = .bool b := by
  obtain ⟨n, h1, _⟩ := DataW.trod_bool ht h
  exact ⟨n, (List.cons.inj h1).1⟩

theorem cells_val : Try.prog.cellsOf 44 = 3 := by kernel_rfl
theorem cells_ev : Try.prog.cellsOf 30 = 6 := by kernel_rfl
theorem cells_oq : Try.prog.cellsOf 32 = 9 := by kernel_rfl
theorem cells_i : Try.prog.cellsOf 3 = 1 := by kernel_rfl
theorem cells_s : Try.prog.cellsOf 9 = 1 := by kernel_rfl
theorem cells_b : Try.prog.cellsOf 4 = 1 := by kernel_rfl
theorem cells_row : Try.prog.cellsOf 28 = 1 := by kernel_rfl

/-- A slice that is read, element by element: each by a reading R of its cells. -/
theorem open_list {P : Program} {α : Type} (f : α → List Value) (R : α → Prop) {t e : TypeId} {k fuel : Nat} {v : Value} {x : DataW H × List MemPlace} (ht : P.underlying t = some (.slice e)) (hk : P.cellsOf e = k) (hk0 : 0 < k) (hf : ∀ a, (f a).length = k)
    (h : DataW.trod enc P W 0 (fun _ => true) true fuel t [v] = some x) (hlt : ∀ p ∈ x.2, p.block < W.heap.size)
    (hel : ∀ n cs y, DataW.trod enc P W 0 (fun _ => true) true n e cs = some y → (∀ p ∈ y.2, p.block < W.heap.size) → ∃ a, cs = f a ∧ R a) :
    ∃ (l : List α) (A : Option Addr) (c : Nat), v = .slice A l.length c ∧ l.length ≤ maxLen ∧ (∀ a, a ∈ l → R a) ∧ (0 < l.length → ∃ b off, A = some ⟨b, off, none⟩ ∧ Came W b off (l.flatMap f)) := by
  rcases open_slice ht h with ⟨hcs, _⟩ | ⟨a, len, cap, m, n, D, Pl, hcs, _, hl, hm, hmm, hx, hi⟩
  · exact ⟨[], none, 0, (List.cons.inj hcs).1, Nat.zero_le _, fun a ha => absurd ha (by simp), fun h => absurd h (by simp)⟩
  · have hv := (List.cons.inj hcs).1
    subst hv
    simp only [if_true] at hmm
    obtain ⟨l, hll, hp⟩ := choose_list (α := α) len (fun i a' => R a' ∧ ∀ j u, (f a')[j]? = some u → W.cell? ((a.add (i * k)).add j) = some u) (by
      intro i hi'
      obtain ⟨cs', hc, htr⟩ := hi i (by omega)
      obtain ⟨_, hlen, hat⟩ := World.cells?_some hc
      obtain ⟨a', ha', hR⟩ := hel n cs' _ htr (fun p hp => hlt p (by
        rw [hx]
        exact List.mem_append_right _ (List.mem_flatMap.2 ⟨i, List.mem_range.2 (by omega), hp⟩)))
      refine ⟨a', hR, fun j u hu => ?_⟩
      have hj : j < k := by rw [← hf a']; exact (List.getElem?_eq_some_iff.1 hu).1
      rw [← hk, hat j (by rw [hk]; exact hj), ha']
      exact hu)
    refine ⟨l, some a, cap, by rw [hll], by omega, fun a' ha' => ?_, fun hpos => ?_⟩
    · obtain ⟨i, hi', rfl⟩ := List.mem_iff_getElem.1 ha'
      exact (hp i hi').1
    · obtain ⟨b, off, spot⟩ := a
      have hspot : spot = none := by
        have hf0 := hf l[0]
        have h1 : (f l[0])[0]? = some (f l[0])[0] := List.getElem?_eq_getElem (by omega)
        have := (hp 0 hpos).2 0 _ h1
        simpa [Addr.add] using World.cell?_spot this
      subst hspot
      have hadd : ∀ b' o j, (⟨b', o, none⟩ : Addr).add j = ⟨b', o + j, none⟩ := by intro b' o j; unfold Addr.add; split <;> simp_all
      have hb : b < W.heap.size := by
        refine hlt (.cell b off) ?_
        rw [hx]
        refine List.mem_append_left _ (MemPlace.mem_row.2 ⟨0, ?_, by simp⟩)
        rw [hk]
        exact Nat.mul_pos (by omega) hk0
      refine ⟨b, off, rfl, hb, fun j u hu => ?_⟩
      have hjl : j < l.length * k := by
        have := (List.getElem?_eq_some_iff.1 hu).1
        rwa [flat_len f k hf] at this
      have hi' : j / k < l.length := Nat.div_lt_of_lt_mul (by rw [Nat.mul_comm]; exact hjl)
      have hjm : j % k < k := Nat.mod_lt _ hk0
      have he : j = j / k * k + j % k := by rw [Nat.mul_comm]; exact (Nat.div_add_mod j k).symm
      obtain ⟨u', h1⟩ : ∃ u', (f l[j / k])[j % k]? = some u' := ⟨(f l[j / k])[j % k]'(by rw [hf]; exact hjm), List.getElem?_eq_getElem _⟩
      have h2 := flat_at f k hf l (j / k) l[j / k] (List.getElem?_eq_getElem hi') (j % k) _ h1
      rw [← he, hu] at h2
      have h3 := (hp (j / k) hi').2 (j % k) _ h1
      rw [hadd, hadd, Nat.add_assoc, ← he] at h3
      rw [h3, h2]

/-- A row of values. -/
theorem open_row {fuel : Nat} {v : Value} {x : DataW H × List MemPlace} (h : DataW.trod enc Try.prog W 0 (fun _ => true) true fuel 28 [v] = some x) (hlt : ∀ p ∈ x.2, p.block < W.heap.size) : ∃ row, RV W.heap.size [] W v row := by
  obtain ⟨row, A, c, hv, hl, _, hc⟩ := open_list (P := Try.prog) encV (fun _ => True) Try.underlying28 cells_val (by decide) (fun _ => rfl) h hlt (fun n cs y hy hylt => by
    obtain ⟨hlen, m, hf⟩ := struct_fields Try.underlying44 hy hylt
    rw [cells_val] at hlen
    match cs, hlen with
    | [x0, x1, x2], _ =>
      obtain ⟨y0, h0, _⟩ := hf 0 _ rfl
      obtain ⟨y1, h1, _⟩ := hf 1 _ rfl
      obtain ⟨y2, h2, _⟩ := hf 2 _ rfl
      simp only [cells_i, cells_s, List.getElem_toArray, List.getElem_cons_zero, List.getElem_cons_succ, List.drop_zero, List.drop_succ_cons, List.take_succ_cons, List.take_zero] at h0 h1 h2
      obtain ⟨k, rfl, _⟩ := int1 Try.underlying3 h0
      obtain ⟨n, rfl, _⟩ := int1 Try.underlying3 h1
      obtain ⟨s, rfl, _⟩ := str1 Try.underlying9 h2
      exact ⟨⟨k, n, s⟩, rfl, trivial⟩)
  refine ⟨row, A, c, hv, hl, fun h0 => ?_⟩
  obtain ⟨b, off, h1, h2⟩ := hc h0
  exact ⟨b, off, h1, h2, by simp, .inl h2.1⟩
/-- An event. -/
theorem open_ev {fuel : Nat} {cs : List Value} {x : DataW H × List MemPlace} (h : DataW.trod enc Try.prog W 0 (fun _ => true) true fuel 30 cs = some x) (hlt : ∀ p ∈ x.2, p.block < W.heap.size) : ∃ p : Ev × Value, cs = evCells p ∧ RV W.heap.size [] W p.2 p.1.row := by
  obtain ⟨hlen, m, hf⟩ := struct_fields Try.underlying30 h hlt
  rw [cells_ev] at hlen
  match cs, hlen with
  | [x0, x1, x2, x3, x4, x5], _ =>
    obtain ⟨y0, h0, _⟩ := hf 0 _ rfl
    obtain ⟨y1, h1, _⟩ := hf 1 _ rfl
    obtain ⟨y2, h2, _⟩ := hf 2 _ rfl
    obtain ⟨y3, h3, _⟩ := hf 3 _ rfl
    obtain ⟨y4, h4, _⟩ := hf 4 _ rfl
    obtain ⟨y5, h5, hl5⟩ := hf 5 _ rfl
    simp only [cells_i, cells_s, cells_row, List.getElem_toArray, List.getElem_cons_zero, List.getElem_cons_succ, List.drop_zero, List.drop_succ_cons, List.take_succ_cons, List.take_zero] at h0 h1 h2 h3 h4 h5
    obtain ⟨p, rfl, _⟩ := int1 Try.underlying3 h0
    obtain ⟨q, rfl, _⟩ := int1 Try.underlying3 h1
    obtain ⟨s, rfl, _⟩ := str1 Try.underlying9 h2
    obtain ⟨sc, rfl, _⟩ := int1 Try.underlying3 h3
    obtain ⟨t, rfl, _⟩ := int1 Try.underlying3 h4
    obtain ⟨row, hr⟩ := open_row h5 hl5
    exact ⟨(⟨p, q, s, sc, t, row⟩, x5), rfl, hr⟩
/-- The operations. -/
theorem open_oqs {fuel : Nat} {v : Value} {x : DataW H × List MemPlace} (h : DataW.trod enc Try.prog W 0 (fun _ => true) true fuel 22 [v] = some x) (hlt : ∀ p ∈ x.2, p.block < W.heap.size) :
    ∃ (l : List (Oq × Value)) (A : Option Addr) (c : Nat), v = .slice A l.length c ∧ l.length ≤ 9223372036854775807 ∧ (∀ p, p ∈ l → -9223372036854775808 ≤ p.1.do_ ∧ p.1.do_ ≤ 9223372036854775807) ∧ Ops W.heap.size W A l := by
  obtain ⟨l, A, c, hv, hl, hR, hc⟩ := open_list (P := Try.prog) oqCells (fun p => (-9223372036854775808 ≤ p.1.do_ ∧ p.1.do_ ≤ 9223372036854775807) ∧ RV W.heap.size [] W p.2 p.1.ev.row) Try.underlying22 cells_oq (by decide) (fun _ => rfl) h hlt (fun n cs y hy hylt => by
    obtain ⟨hlen, m, hf⟩ := struct_fields Try.underlying32 hy hylt
    rw [cells_oq] at hlen
    match cs, hlen with
    | [x0, x1, x2, x3, x4, x5, x6, x7, x8], _ =>
      obtain ⟨y0, h0, _⟩ := hf 0 _ rfl
      obtain ⟨y1, h1, hl1⟩ := hf 1 _ rfl
      obtain ⟨y2, h2, _⟩ := hf 2 _ rfl
      obtain ⟨y3, h3, _⟩ := hf 3 _ rfl
      simp only [cells_i, cells_b, cells_ev, List.getElem_toArray, List.getElem_cons_zero, List.getElem_cons_succ, List.drop_zero, List.drop_succ_cons, List.take_succ_cons, List.take_zero] at h0 h1 h2 h3
      obtain ⟨d, rfl, hd⟩ := int1 Try.underlying3 h0
      obtain ⟨ev, he, hr⟩ := open_ev h1 hl1
      obtain ⟨nx, rfl⟩ := bool1 Try.underlying4 h2
      obtain ⟨k, rfl, _⟩ := int1 Try.underlying3 h3
      obtain ⟨⟨p, q, s, sc, t, row⟩, rv⟩ := ev
      simp [evCells] at he
      obtain ⟨rfl, rfl, rfl, rfl, rfl, rfl⟩ := he
      exact ⟨(⟨d, ⟨p, q, s, sc, t, row⟩, nx, k⟩, x6), rfl, bounds_i64 hd, hr⟩)
  exact ⟨l, A, c, hv, Nat.le_trans hl (by decide), fun p hp => (hR p hp).1, hc, fun p hp => (hR p hp).2⟩
end

end Go.Proofs.Ytkpmfbcepkpnpaa
