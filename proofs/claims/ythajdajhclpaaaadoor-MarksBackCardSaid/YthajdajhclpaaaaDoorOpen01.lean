/- The arguments of layer 1's laws, opened: values, lists of values. -/
import Derived.Test.YthajdajhclpaaaaDoorLawF
import Derived.Test.YthajdajhclpaaaaDoorRowKit
namespace Go.Proofs.YthajdajhclpaaaaDoor
open Go.RowKit Go.ChangeShapes Go.WideShapes Go.ChangeAt Go.Deep Wr

theorem flatk_at {α : Type} (f : α → List Value) (k : Nat) (hk : ∀ x, (f x).length = k) (l : List α) (j : Nat) (x : α) (h : l[j]? = some x) (i : Nat) (u : Value) (hi : (f x)[i]? = some u) : (l.flatMap f)[j * k + i]? = some u := by
  induction l generalizing j with
  | nil => simp at h
  | cons y l ih =>
    cases j with
    | zero =>
      simp at h
      subst h
      rw [List.flatMap_cons, List.getElem?_append_left (by have := (List.getElem?_eq_some_iff.1 hi).1; omega)]
      simpa using hi
    | succ j =>
      rw [List.flatMap_cons, List.getElem?_append_right (by rw [hk, Nat.succ_mul]; omega), hk, show (j + 1) * k + i - k = j * k + i by rw [Nat.succ_mul]; omega]
      exact ih j (by simpa using h)
theorem flatk_len {α : Type} (f : α → List Value) (k : Nat) (hk : ∀ x, (f x).length = k) (l : List α) : (l.flatMap f).length = l.length * k := by
  induction l with
  | nil => simp
  | cons y l ih => rw [List.flatMap_cons, List.length_append, ih, hk, List.length_cons, Nat.succ_mul]; omega
section
variable {H : Type} {enc : TypeId × Value → H} {W : World}
/-- A struct that is read: each field by itself. -/
theorem struct_fields {P : Program} {t : TypeId} {fs : Array Field} {fuel : Nat} {cs : List Value} {x : DataW H × List MemPlace} (ht : P.underlying t = some (.struct fs)) (h : DataW.trod enc P W 0 (fun _ => true) true fuel t cs = some x) (hlt : ∀ p ∈ x.2, p.block < W.heap.size) :
    cs.length = P.cellsOf t ∧ ∃ n, ∀ (i : Nat) (f : Field), fs[i]? = some f → ∃ y, DataW.trod enc P W 0 (fun _ => true) true n f.type ((cs.drop f.offset).take (P.cellsOf f.type)) = some y ∧ ∀ p ∈ y.2, p.block < W.heap.size := by
  obtain ⟨xs, n, _, hx, hl, hlen, hf⟩ := DataW.trod_struct ht h
  refine ⟨hl, n, fun i f hi => ?_⟩
  have hil : i < xs.length := by rw [hlen]; exact (Array.getElem?_eq_some_iff.1 hi).1
  refine ⟨xs[i], (hf i f hi).trans (List.getElem?_eq_getElem hil), fun p hp => hlt p ?_⟩
  rw [hx]
  exact List.mem_flatMap.2 ⟨xs[i], List.getElem_mem hil, hp⟩
theorem int1 {P : Program} {t : TypeId} {k : IntKind} {fuel : Nat} {v : Value} {x : DataW H × List MemPlace} (ht : P.underlying t = some (.int k)) (h : DataW.trod enc P W 0 (fun _ => true) true fuel t [v] = some x) : ∃ n, v = .int k n ∧ (Lit.int k n).wf = true := by
  obtain ⟨n, h1, _, h2⟩ := DataW.trod_int ht h
  exact ⟨n, (List.cons.inj h1).1, h2⟩
theorem str1 {P : Program} {t : TypeId} {fuel : Nat} {v : Value} {x : DataW H × List MemPlace} (ht : P.underlying t = some .string) (h : DataW.trod enc P W 0 (fun _ => true) true fuel t [v] = some x) : ∃ s : ByteArray, v = .string s ∧ s.size ≤ maxLen := by
  obtain ⟨n, h1, _, h2⟩ := DataW.trod_string ht h
  exact ⟨n, (List.cons.inj h1).1, h2⟩
theorem bool1 {P : Program} {t : TypeId} {fuel : Nat} {v : Value} {x : DataW H × List MemPlace} (ht : P.underlying t = some .bool) (h : DataW.trod enc P W 0 (fun _ => true) true fuel t [v] = some x) : ∃ b, v = .bool b := by
  obtain ⟨n, h1, _⟩ := DataW.trod_bool ht h
  exact ⟨n, (List.cons.inj h1).1⟩

theorem cells_i : Tryd.prog.cellsOf 3 = 1 := by kernel_rfl
theorem cells_s : Tryd.prog.cellsOf 9 = 1 := by kernel_rfl

/-- A slice that is read, element by element: each by a reading R of its cells. -/
theorem open_list {P : Program} {α : Type} (f : α → List Value) (R : α → Prop) {t e : TypeId} {k fuel : Nat} {v : Value} {x : DataW H × List MemPlace} (ht : P.underlying t = some (.slice e)) (hk : P.cellsOf e = k) (hk0 : 0 < k) (hf : ∀ a, (f a).length = k)
    (h : DataW.trod enc P W 0 (fun _ => true) true fuel t [v] = some x) (hlt : ∀ p ∈ x.2, p.block < W.heap.size)
    (hel : ∀ n cs y, DataW.trod enc P W 0 (fun _ => true) true n e cs = some y → (∀ p ∈ y.2, p.block < W.heap.size) → ∃ a, cs = f a ∧ R a) :
    ∃ (l : List α) (A : Option Addr) (c : Nat), v = .slice A l.length c ∧ l.length ≤ maxLen ∧ (∀ a, a ∈ l → R a) ∧ (0 < l.length → ∃ b off, A = some ⟨b, off, none⟩ ∧ Came W b off (l.flatMap f)) := by
  rcases open_slice ht h with ⟨hcs, _⟩ | ⟨a, len, cap, m, n, D, Pl, hcs, _, hl, hm, hmm, hx, hi⟩
  · exact ⟨[], none, 0, (List.cons.inj hcs).1, Nat.zero_le _, fun a ha => absurd ha (by simp), fun h => absurd h (by simp)⟩
  · have hv := (List.cons.inj hcs).1
    subst hv
    simp only [if_true] at hmm
    obtain ⟨l, hll, hp⟩ := choose_list (α := α) len (fun i a' => R a' ∧ ∀ j u, (f a')[j]? = some u → W.cell? ((a.add (i * k)).add j) = some u) (by
      intro i hi'
      obtain ⟨cs', hc, htr⟩ := hi i (by omega)
      obtain ⟨_, hlen, hat⟩ := World.cells?_some hc
      obtain ⟨a', ha', hR⟩ := hel n cs' _ htr (fun p hp => hlt p (by
        rw [hx]
        exact List.mem_append_right _ (List.mem_flatMap.2 ⟨i, List.mem_range.2 (by omega), hp⟩)))
      refine ⟨a', hR, fun j u hu => ?_⟩
      have hj : j < k := by rw [← hf a']; exact (List.getElem?_eq_some_iff.1 hu).1
      rw [← hk, hat j (by rw [hk]; exact hj), ha']
      exact hu)
    refine ⟨l, some a, cap, by rw [hll], by omega, fun a' ha' => ?_, fun hpos => ?_⟩
    · obtain ⟨i, hi', rfl⟩ := List.mem_iff_getElem.1 ha'
      exact (hp i hi').1
    · obtain ⟨b, off, spot⟩ := a
      have hspot : spot = none := by
        have hf0 := hf l[0]
        have h1 : (f l[0])[0]? = some (f l[0])[0] := List.getElem?_eq_getElem (by omega)
        have := (hp 0 hpos).2 0 _ h1
        simpa [Addr.add] using World.cell?_spot this
      subst hspot
      have hadd : ∀ b' o j, (⟨b', o, none⟩ : Addr).add j = ⟨b', o + j, none⟩ := by intro b' o j; unfold Addr.add; split <;> simp_all
      have hb : b < W.heap.size := by
        refine hlt (.cell b off) ?_
        rw [hx]
        refine List.mem_append_left _ (MemPlace.mem_row.2 ⟨0, ?_, by simp⟩)
        rw [hk]
        exact Nat.mul_pos (by omega) hk0
      refine ⟨b, off, rfl, hb, fun j u hu => ?_⟩
      have hjl : j < l.length * k := by
        have := (List.getElem?_eq_some_iff.1 hu).1
        rwa [flatk_len f k hf] at this
      have hi' : j / k < l.length := Nat.div_lt_of_lt_mul (by rw [Nat.mul_comm]; exact hjl)
      have hjm : j % k < k := Nat.mod_lt _ hk0
      have he : j = j / k * k + j % k := by rw [Nat.mul_comm]; exact (Nat.div_add_mod j k).symm
      obtain ⟨u', h1⟩ : ∃ u', (f l[j / k])[j % k]? = some u' := ⟨(f l[j / k])[j % k]'(by rw [hf]; exact hjm), List.getElem?_eq_getElem _⟩
      have h2 := flatk_at f k hf l (j / k) l[j / k] (List.getElem?_eq_getElem hi') (j % k) _ h1
      rw [← he, hu] at h2
      have h3 := (hp (j / k) hi').2 (j % k) _ h1
      rw [hadd, hadd, Nat.add_assoc, ← he] at h3
      rw [h3, h2]

theorem cells_wv : Tryd.prog.cellsOf 25 = 5 := by kernel_rfl
theorem cells_is : Tryd.prog.cellsOf 22 = 1 := by kernel_rfl
theorem cells_ss : Tryd.prog.cellsOf 23 = 1 := by kernel_rfl
theorem map_flat {α : Type} (f : α → Value) (l : List α) : l.map f = l.flatMap fun a => [f a] := by
  induction l with
  | nil => rfl
  | cons a l ih => rw [List.map_cons, List.flatMap_cons, ih]; rfl
theorem i64_wf {n : Int} (h : (Lit.int IntKind.i64 n).wf = true) : I64 n := by
  have e1 : IntKind.i64.min = -9223372036854775808 := rfl
  have e2 : IntKind.i64.max = 9223372036854775807 := rfl
  simp [Lit.wf, e1, e2] at h
  exact ⟨by omega, by omega⟩
theorem open_ints {fuel : Nat} {v : Value} {x : DataW H × List MemPlace} (h : DataW.trod enc Tryd.prog W 0 (fun _ => true) true fuel 22 [v] = some x) (hlt : ∀ p ∈ x.2, p.block < W.heap.size) : ∃ l : List Int, SL W.heap.size W v l.length (l.map (Value.int .i64)) ∧ ∀ n, n ∈ l → I64 n := by
  obtain ⟨l, A, c, hv, hl, hR, hc⟩ := open_list (P := Tryd.prog) (fun n : Int => [Value.int .i64 n]) I64 Tryd.underlying22 cells_i (by decide) (fun _ => rfl) h hlt (fun n cs y hy _ => by
    obtain ⟨k, e, _, hk⟩ := DataW.trod_int Tryd.underlying3 hy
    exact ⟨k, e, i64_wf hk⟩)
  refine ⟨l, ⟨A, c, hv, hl, fun h0 => ?_⟩, hR⟩
  obtain ⟨b, off, h1, h2⟩ := hc h0
  refine ⟨b, off, h1, h2.1, ?_⟩
  rw [map_flat]
  exact h2
theorem open_strs {fuel : Nat} {v : Value} {x : DataW H × List MemPlace} (h : DataW.trod enc Tryd.prog W 0 (fun _ => true) true fuel 23 [v] = some x) (hlt : ∀ p ∈ x.2, p.block < W.heap.size) : ∃ l : List (List UInt8), SL W.heap.size W v l.length (l.map bsv) := by
  obtain ⟨l, A, c, hv, hl, hR, hc⟩ := open_list (P := Tryd.prog) (fun s : List UInt8 => [bsv s]) (fun _ => True) Tryd.underlying23 cells_s (by decide) (fun _ => rfl) h hlt (fun n cs y hy _ => by
    obtain ⟨s, e, _, hs⟩ := DataW.trod_string Tryd.underlying9 hy
    exact ⟨s.data.toList, by rw [e]; rfl, trivial⟩)
  refine ⟨l, A, c, hv, hl, fun h0 => ?_⟩
  obtain ⟨b, off, h1, h2⟩ := hc h0
  refine ⟨b, off, h1, h2.1, ?_⟩
  rw [map_flat]
  exact h2
set_option maxRecDepth 100000 in
/-- One value of the law. -/
theorem open_wv {fuel : Nat} {cs : List Value} {x : DataW H × List MemPlace} (h : DataW.trod enc Tryd.prog W 0 (fun _ => true) true fuel 25 cs = some x) (hlt : ∀ p ∈ x.2, p.block < W.heap.size) : ∃ t : Wv × Value × Value, cs = wc t ∧ VL W.heap.size W t.1 t.2.1 t.2.2 ∧ t.1.Int64 := by
  obtain ⟨hlen, m, hf⟩ := struct_fields Tryd.underlying25 h hlt
  rw [cells_wv] at hlen
  match cs, hlen with
  | [x0, x1, x2, x3, x4], _ =>
    obtain ⟨y0, h0, _⟩ := hf 0 _ rfl
    obtain ⟨y1, h1, _⟩ := hf 1 _ rfl
    obtain ⟨y2, h2, _⟩ := hf 2 _ rfl
    obtain ⟨y3, h3, l3⟩ := hf 3 _ rfl
    obtain ⟨y4, h4, l4⟩ := hf 4 _ rfl
    simp only [cells_i, cells_s, cells_is, cells_ss, List.getElem_toArray, List.getElem_cons_zero, List.getElem_cons_succ, List.drop_zero, List.drop_succ_cons, List.take_succ_cons, List.take_zero] at h0 h1 h2 h3 h4
    obtain ⟨k, rfl, hk⟩ := int1 Tryd.underlying3 h0
    obtain ⟨n, rfl, hn⟩ := int1 Tryd.underlying3 h1
    obtain ⟨s, rfl, _⟩ := str1 Tryd.underlying9 h2
    obtain ⟨ns, hns, hni⟩ := open_ints h3 l3
    obtain ⟨ss, hss⟩ := open_strs h4 l4
    exact ⟨(⟨k, n, s.data.toList, ns, ss⟩, x3, x4), rfl, ⟨hns, hss⟩, ⟨i64_wf hk, i64_wf hn, hni⟩⟩
/-- A list of values of the law. -/
theorem open_wvs {fuel : Nat} {v : Value} {x : DataW H × List MemPlace} (h : DataW.trod enc Tryd.prog W 0 (fun _ => true) true fuel 28 [v] = some x) (hlt : ∀ p ∈ x.2, p.block < W.heap.size) :
    ∃ (l : List (Wv × Value × Value)) (A : Option Addr) (c : Nat), v = .slice A l.length c ∧ (∀ t, t ∈ l → VL W.heap.size W t.1 t.2.1 t.2.2 ∧ t.1.Int64) ∧ (0 < l.length → ∃ b off, A = some ⟨b, off, none⟩ ∧ Came W b off (l.flatMap wc)) := by
  obtain ⟨l, A, c, hv, _, hR, hc⟩ := open_list (P := Tryd.prog) wc (fun t => VL W.heap.size W t.1 t.2.1 t.2.2 ∧ t.1.Int64) Tryd.underlying28 cells_wv (by decide) (fun _ => rfl) h hlt (fun n cs y hy hylt => open_wv hy hylt)
  exact ⟨l, A, c, hv, hR, hc⟩
end

end Go.Proofs.YthajdajhclpaaaaDoor
