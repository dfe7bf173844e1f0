/- The store's Slice, From, Copy. -/
import Derived.Test.YtkpmfbcepkpnpaaCopied
namespace Go.Proofs.Ytkpmfbcepkpnpaa
open Go.RowKit Go.Shelf

section
variable {B : Nat} {X : List Nat} {w w' : World} {a : Nat} {part first hor : Int} {v : Value} {es : List (Ev × Value)}

theorem St.came {g : Nat} {c : Nat} (h : St B X w a part first hor (.slice (some ⟨g, 0, none⟩) es.length c) es) : Came w g 0 (ecells es) :=
  ⟨(own_fp h.own g (by simp [fpv, Value.ownBlock])).2, fun (i : Nat) (u : Value) hu => by rw [Nat.zero_add]; exact own_cell h.own i u hu⟩
/-- Where the store's events lie. -/
theorem St.split (h : St B X w a part first hor v es) : (v = .slice none 0 0 ∧ es = []) ∨ ∃ g c, v = .slice (some ⟨g, 0, none⟩) es.length c ∧ es.length ≤ c ∧ c ≤ maxLen := by
  rcases h.own.2 with ⟨h1, h2⟩ | ⟨g, c, cur, h1, _, _, h2, h3, _⟩
  · exact .inl ⟨h1, List.eq_nil_of_length_eq_zero h2⟩
  · exact .inr ⟨g, c, h1, h2, h3⟩
theorem ES.own {B0 : Nat} {n : Nat} (h : w.ownsRow B0 30 6 v n (ecells es)) (hn : es.length = n) (hR : Rows B X w es) (hl : n ≤ 1000000) : ES B X w v es := by
  subst hn
  rcases h.2 with ⟨h1, h2⟩ | ⟨g, c, cur, h1, _⟩
  · refine ⟨none, 0, by rw [h1, h2], by omega, fun h0 => by omega, hR⟩
  · subst h1
    exact ⟨_, c, rfl, by omega, fun _ => ⟨g, 0, rfl, (own_fp h g (by simp [fpv, Value.ownBlock])).2, fun (i : Nat) (u : Value) hu => by rw [Nat.zero_add]; exact own_cell h i u hu⟩, hR⟩

set_option maxHeartbeats 2000000 in
theorem from_any (h : St B X w a part first hor v es) (hl : es.length ≤ 1000000) (t : Int) (hBw : B ≤ w.heap.size) (X' : List Nat) (hX' : ∀ k, k ∈ X' → k < w.heap.size) :
    Calls Try.prog 18 #[.pointer (some ⟨a, 0, none⟩), .int .i64 t] w fun e w' => ∃ v', e = .returned v' ∧ ∃ es' : List (Ev × Value), es'.map (·.1) = (es.filter (late t)).map (·.1) ∧ w'.ownsRow w.heap.size 30 6 v' es'.length (ecells es') ∧ Rows B X' w' es' ∧ Fr [] w w' := by
  have hA : ∃ A c, v = .slice A es.length c ∧ (0 < es.length → ∃ b off, A = some ⟨b, off, none⟩ ∧ Came w b off (ecells es)) := by
    rcases h.split with ⟨h1, h2⟩ | ⟨g, c, h1, _⟩
    · exact ⟨none, 0, by rw [h1, h2]; rfl, fun h0 => by rw [h2] at h0; exact absurd h0 (by simp)⟩
    · subst h1
      exact ⟨_, c, rfl, fun _ => ⟨g, 0, rfl, h.came⟩⟩
  obtain ⟨A, c, rfl, hA⟩ := hA
  obtain ⟨_, _, _, c3⟩ := h.cells
  have HA := Lib.hid hA
  have HR := Lib.hid h.rows
  have HX := Lib.hid hX'
  clear hA hX' h
  go_enter Try.func18, Try.ntmps18
  go_wp2
  go_loopw [5, 13] (fun ov iv wr => ∃ (k : Nat) (es' : List (Ev × Value)) (vo : Value), vo = ov ∧ iv = .int .i64 k ∧ k ≤ es.length ∧ wr.ownsRow w.heap.size 30 6 vo es'.length (ecells es') ∧ es'.map (·.1) = ((es.take k).filter (late t)).map (·.1) ∧ es'.length ≤ k ∧ Rows B X' wr es' ∧ Fr [] w wr) (fun _ iv _ => es.length - (intOf iv).toNat)
  case atStart => exact ⟨0, [], _, rfl, rfl, by omega, World.ownsRow_nil _ _ _ _, rfl, by simp, (fun p hp => absurd hp (by simp)), by (repeat' (first | with_reducible exact Fr.refl _ _ | with_reducible assumption | with_reducible apply Fr.drew | with_reducible apply Fr.drewN | with_reducible apply Fr.alloc | (with_reducible refine Fr.set ?_ (.inr (by first | exact Nat.le_refl _ | exact Nat.le_succ _ | (simp; done) | (simp; omega))) _)))⟩
  case round =>
    obtain ⟨k, es', vo, rfl, rfl, hk, hown, he, hkl, hR', hfr⟩ := hrel
    have Hown := Lib.hid hown
    have He := Lib.hid he
    have HR' := Lib.hid hR'
    have Hfr := Lib.hid hfr
    have hz0 := hfr.size
    clear hown he hR' hfr
    by_cases hlt : k < es.length
    · obtain ⟨b, off, rfl, hca⟩ := HA.out (by omega)
      obtain ⟨x, hx⟩ : ∃ x, es[k]? = some x := ⟨_, List.getElem?_eq_getElem hlt⟩
      have hrr := HR.out x (List.mem_of_getElem? hx)
      have hcw := hca.of_block Hfr.out.size (Hfr.out.block _ hca.1 (by simp))
      have cc := fun i u hi => hcw.2 _ _ (ecells_at es k x hx i u hi)
      have hbl := hcw.1
      have hts : es.take (k + 1) = es.take k ++ [x] := by
        have hv : es[k] = x := by rw [List.getElem?_eq_getElem hlt] at hx; exact Option.some.inj hx
        rw [List.take_succ_eq_append_getElem hlt, hv]
      have Hts := Lib.hid hts
      clear hts
      obtain ⟨⟨q0, q1, s, sc, tm, row⟩, y⟩ := x
      obtain ⟨yA, yc, hy⟩ : ∃ A c, y = .slice A row.length c := by obtain ⟨A, c, h, _⟩ := hrr.1; exact ⟨A, c, h⟩
      subst hy
      have d0 := cc 0 _ rfl
      have d1 := cc 1 _ rfl
      have d2 := cc 2 _ rfl
      have d3 := cc 3 _ rfl
      have d4 := cc 4 _ rfl
      have d5 := cc 5 _ rfl
      simp only [Nat.add_zero] at d0
      rw [← Nat.add_assoc] at d1 d2 d3 d4 d5
      simp only at d0 d1 d2 d3 d4 d5
      have Hrr := Lib.hid hrr
      clear cc hca hcw hx hrr c3
      have hb1 : Fr [] wr (wr.alloc (.cells #[.int .i64 q0, .int .i64 q1, .string s, .int .i64 sc, .int .i64 tm, .slice yA row.length yc] 30)) := by (repeat' (first | with_reducible exact Fr.refl _ _ | with_reducible assumption | with_reducible apply Fr.drew | with_reducible apply Fr.drewN | with_reducible apply Fr.alloc | (with_reducible refine Fr.set ?_ (.inr (by first | exact Nat.le_refl _ | exact Nat.le_succ _ | (simp; done) | (simp; omega))) _)))
      have Hb1 := Lib.hid hb1
      clear hb1
      by_cases hge : t ≤ tm
      · have hf1 : Hid (((es.take (k + 1)).filter (late t)).map (·.1) = ((es.take k).filter (late t)).map (·.1) ++ [(⟨q0, q1, s, sc, tm, row⟩ : Ev)]) := by
          show _ = _
          rw [Hts.out, List.filter_append, List.map_append]
          simp [late, hge]
        go_wp2_with fail
        refine (event_any q0 q1 s sc tm (B := B) (X := X) (row := row) (Hrr.out.1.quiet (Hfr.out.trans Hb1.out)) Hrr.out.2 (by simp; omega) X' (fun k hk => by have := HX.out k hk; simp; omega)).mono ?_
        rintro e w1 ⟨v1, rfl, hrv, hf1'⟩
        obtain ⟨A1, c1', hv1⟩ : ∃ A c, v1 = .slice A row.length c := by obtain ⟨A, c, h, _⟩ := hrv; exact ⟨A, c, h⟩
        subst hv1
        have Hown1 := Lib.hid (own_fr Hown.out (Hb1.out.trans hf1') (by simp))
        have HR1 := Lib.hid (HR'.out.quiet (Hb1.out.trans hf1'))
        have Hfr1 := Lib.hid (Hfr.out.trans (Hb1.out.trans hf1'))
        have Hrv1 := Lib.hid hrv
        have hz1 : wr.heap.size ≤ w1.heap.size := (Hb1.out.trans hf1').size
        clear hrv hf1' Hb1 d0 d1 d2 d3 d4 d5
        go_wp2_with (at_builtin; refine wpList_app rfl (.tmp 21) (.tmp 24) 27 rfl w.heap.size 30 _ 6 72 Try.underlying27 info_ev rfl (by decide) _ _ _ rfl (Hown1.out.alloc _) _ 30 _ rfl (row_new _ _ _ _ (by simp)) (by rfl) (ev_one _ _ _ _ _ _ _ _) (by omega) (by omega) (by simp; omega) ?_; intro g2 c2 w2 hown2 hfr2)
        have hoff : ∀ W, Fr [] w1 W → Off B X' W (fpv vo) := fun W hW => own_off (own_fr Hown1.out hW (by simp)) (by decide) hBw
        have ha1 := (Fr.refl [] w1).alloc (.cells #[.int .i64 q0, .int .i64 q1, .string s, .int .i64 sc, .int .i64 tm, .slice A1 row.length c1'] 30)
        have Hrel : Hid (w2.ownsRow w.heap.size 30 6 (.slice (some ⟨g2, 0, none⟩) (es'.length + 1) c2) (es' ++ [((⟨q0, q1, s, sc, tm, row⟩ : Ev), Value.slice A1 row.length c1')]).length (ecells (es' ++ [((⟨q0, q1, s, sc, tm, row⟩ : Ev), Value.slice A1 row.length c1')])) ∧ (es' ++ [((⟨q0, q1, s, sc, tm, row⟩ : Ev), Value.slice A1 row.length c1')]).map (·.1) = ((es.take (k + 1)).filter (late t)).map (·.1) ∧ (es' ++ [((⟨q0, q1, s, sc, tm, row⟩ : Ev), Value.slice A1 row.length c1')]).length ≤ k + 1 ∧ Rows B X' w2 (es' ++ [((⟨q0, q1, s, sc, tm, row⟩ : Ev), Value.slice A1 row.length c1')]) ∧ Fr [] w w2) := by
          refine ⟨?_, ?_, ?_, ?_, ?_⟩
          · rw [ecells_snoc, List.length_append]
            exact hown2
          · rw [hf1.out, List.map_append, He.out]
            rfl
          · simp; omega
          · intro z hz
            rcases List.mem_append.1 hz with hz | hz
            · exact ((HR1.out.quiet ha1).fr hfr2 (hoff _ ha1)) z hz
            · have : z = (⟨q0, q1, s, sc, tm, row⟩, .slice A1 row.length c1') := by simpa using hz
              subst this
              exact ⟨(Hrv1.out.quiet ha1).fr hfr2 (hoff _ ha1), Hrr.out.2⟩
          · exact (Hfr1.out.trans ha1).then hfr2 (fun i hi => .inr (own_fp Hown.out i hi).1)
        clear hown2 hfr2 hoff ha1 Hown1 HR1 Hfr1 Hrv1
        go_wp2
        go_roundw
        case rel => exact ⟨k + 1, _, _, rfl, by go_num, by omega, Hrel.out.1, Hrel.out.2.1, Hrel.out.2.2.1, Hrel.out.2.2.2.1, Hrel.out.2.2.2.2⟩
        case measure => simp [intOf]; omega
      · have hf1 : Hid (((es.take (k + 1)).filter (late t)).map (·.1) = ((es.take k).filter (late t)).map (·.1)) := by
          show _ = _
          rw [Hts.out, List.filter_append, List.map_append]
          simp [late, hge]
        go_wp2
        go_roundw
        case rel => exact ⟨k + 1, es', vo, rfl, by go_num, by omega, own_fr Hown.out Hb1.out (by simp), by rw [hf1.out]; exact He.out, by omega, HR'.out.quiet Hb1.out, Hfr.out.trans Hb1.out⟩
        case measure => simp [intOf]; omega
    · have hkk : k = es.length := by omega
      subst hkk
      go_wp2
      go_ret
      refine ⟨vo, rfl, es', ?_, Hown.out, HR'.out, Hfr.out⟩
      rw [He.out, List.take_of_length_le (Nat.le_refl _)]
end

end Go.Proofs.Ytkpmfbcepkpnpaa
