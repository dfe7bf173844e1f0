/- The store's copied; Slice, From, Copy. -/
import Derived.Test.YtkpmfbcepkpnpaaTrim
namespace Go.Proofs.Ytkpmfbcepkpnpaa
open Go.RowKit Go.Shelf

theorem make_evs (n : Nat) (hn : n ≤ 1000000) : ∃ mc : Array Value, mc.size = n * 6 ∧ ∀ W : World, (Instr.makeSlice 27 (.int .i64 0) (.int .i64 n)).run Try.prog W = .ok (.slice (some ⟨W.heap.size, 0, none⟩) 0 n) (W.alloc (.cells mc 30)) :=
  ⟨_, size_madeCells _ _, fun W => run_make_rowN (P := Try.prog) 27 30 (.agg #[.int .i64 0, .int .i64 0, .string ⟨#[]⟩, .int .i64 0, .int .i64 0, .slice none 0 0]) 6 72 Try.underlying27 info_ev .i64 .i64 0 n (Nat.zero_le _) (by omega) (by omega) W⟩
theorem ev_one (p q : Int) (s : ByteArray) (sc t : Int) (A : Option Addr) (n c : Nat) : ∀ u ∈ [Value.int .i64 p, .int .i64 q, .string s, .int .i64 sc, .int .i64 t, .slice A n c], u.oneCell' = true := by
  intro u hu; simp at hu; rcases hu with rfl | rfl | rfl | rfl | rfl | rfl <;> rfl
theorem ecells_snoc (es : List (Ev × Value)) (x : Ev × Value) : ecells (es ++ [x]) = ecells es ++ evCells x := by simp [ecells]

set_option maxHeartbeats 2000000 in
theorem copied_any {B : Nat} {X : List Nat} (A : Option Addr) (c : Nat) (es : List (Ev × Value)) (w : World) (hA : 0 < es.length → ∃ b off, A = some ⟨b, off, none⟩ ∧ Came w b off (ecells es)) (hR : Rows B X w es) (hl : es.length ≤ 1000000) (hB : B ≤ w.heap.size) (X' : List Nat) (hX' : ∀ k, k ∈ X' → k < w.heap.size) :
    Calls Try.prog 31 #[.slice A es.length c, .func (.func 26) #[] #[]] w fun e w' => ∃ v', e = .returned v' ∧ ∃ es' : List (Ev × Value), es'.map (·.1) = es.map (·.1) ∧ w'.ownsRow w.heap.size 30 6 v' es.length (ecells es') ∧ Rows B X' w' es' ∧ Fr [] w w' := by
  obtain ⟨mc, hmc, hmk⟩ := make_evs es.length hl
  have HA := Lib.hid hA
  have HR := Lib.hid hR
  have HX := Lib.hid hX'
  have Hmc := Lib.hid hmc
  clear hA hR hX' hmc
  go_enter Try.func31, Try.ntmps31
  go_wp2
  go_loopw [5, 13] (fun ov iv wr => ∃ (k : Nat) (es' : List (Ev × Value)) (vo : Value), vo = ov ∧ iv = .int .i64 k ∧ k ≤ es.length ∧ wr.ownsRow w.heap.size 30 6 vo k (ecells es') ∧ es'.map (·.1) = (es.take k).map (·.1) ∧ Rows B X' wr es' ∧ Fr [] w wr) (fun _ iv _ => es.length - (intOf iv).toNat)
  case atStart => exact ⟨0, [], _, rfl, rfl, by omega, World.ownsRow_made w mc es.length (Nat.le_refl _) (Nat.le_trans hl (by decide)) Hmc.out, rfl, (fun p hp => absurd hp (by simp)), by (repeat' (first | with_reducible exact Fr.refl _ _ | with_reducible assumption | with_reducible apply Fr.drew | with_reducible apply Fr.drewN | with_reducible apply Fr.alloc | (with_reducible refine Fr.set ?_ (.inr (by first | exact Nat.le_refl _ | exact Nat.le_succ _ | (simp; done) | (simp; omega))) _)))⟩
  case round =>
    obtain ⟨k, es', vo, rfl, rfl, hk, hown, he, hR', hfr⟩ := hrel
    have Hown := Lib.hid hown
    have He := Lib.hid he
    have HR' := Lib.hid hR'
    have Hfr := Lib.hid hfr
    have hz0 := hfr.size
    clear hown he hR' hfr hmk
    by_cases hlt : k < es.length
    · obtain ⟨b, off, rfl, hca⟩ := HA.out (by omega)
      obtain ⟨x, hx⟩ : ∃ x, es[k]? = some x := ⟨_, List.getElem?_eq_getElem hlt⟩
      have hrr := HR.out x (List.mem_of_getElem? hx)
      have hcw := hca.of_block Hfr.out.size (Hfr.out.block _ hca.1 (by simp))
      have cc := fun i u hi => hcw.2 _ _ (ecells_at es k x hx i u hi)
      have hbl := hcw.1
      have hts : es.take (k + 1) = es.take k ++ [x] := by
        have hv : es[k] = x := by rw [List.getElem?_eq_getElem hlt] at hx; exact Option.some.inj hx
        rw [List.take_succ_eq_append_getElem hlt, hv]
      have Hts := Lib.hid hts
      clear hts
      obtain ⟨⟨q0, q1, s, sc, t, row⟩, y⟩ := x
      obtain ⟨yA, yc, hy⟩ : ∃ A c, y = .slice A row.length c := by obtain ⟨A, c, h, _⟩ := hrr.1; exact ⟨A, c, h⟩
      subst hy
      have c0 := cc 0 _ rfl
      have c1 := cc 1 _ rfl
      have c2 := cc 2 _ rfl
      have c3 := cc 3 _ rfl
      have c4 := cc 4 _ rfl
      have c5 := cc 5 _ rfl
      simp only [Nat.add_zero] at c0
      rw [← Nat.add_assoc] at c1 c2 c3 c4 c5
      simp only at c0 c1 c2 c3 c4 c5
      have Hrr := Lib.hid hrr
      clear cc hca hcw hx hrr
      go_wp2_with fail
      have hb1 : Fr [] wr (wr.alloc (.cells #[.int .i64 q0, .int .i64 q1, .string s, .int .i64 sc, .int .i64 t, .slice yA row.length yc] 30)) := by (repeat' (first | with_reducible exact Fr.refl _ _ | with_reducible assumption | with_reducible apply Fr.drew | with_reducible apply Fr.drewN | with_reducible apply Fr.alloc | (with_reducible refine Fr.set ?_ (.inr (by first | exact Nat.le_refl _ | exact Nat.le_succ _ | (simp; done) | (simp; omega))) _)))
      refine (event_any q0 q1 s sc t (B := B) (X := X) (row := row) (Hrr.out.1.quiet (Hfr.out.trans hb1)) Hrr.out.2 (by simp; omega) X' (fun k hk => by have := HX.out k hk; simp; omega)).mono ?_
      rintro e w1 ⟨v1, rfl, hrv, hf1⟩
      obtain ⟨A1, c1', hv1⟩ : ∃ A c, v1 = .slice A row.length c := by obtain ⟨A, c, h, _⟩ := hrv; exact ⟨A, c, h⟩
      subst hv1
      have Hown1 := Lib.hid (own_fr Hown.out (hb1.trans hf1) (by simp))
      have HR1 := Lib.hid (HR'.out.quiet (hb1.trans hf1))
      have Hfr1 := Lib.hid (Hfr.out.trans (hb1.trans hf1))
      have Hrv1 := Lib.hid hrv
      have hz1 : wr.heap.size ≤ w1.heap.size := (hb1.trans hf1).size
      clear hrv hf1 hb1 c0 c1 c2 c3 c4 c5
      go_wp2_with (at_builtin; refine wpList_app rfl (.tmp 17) (.tmp 21) 27 rfl w.heap.size 30 _ 6 72 Try.underlying27 info_ev rfl (by decide) _ _ _ rfl (Hown1.out.alloc _) _ 30 _ rfl (row_new _ _ _ _ (by simp)) (by rfl) (ev_one _ _ _ _ _ _ _ _) (by omega) (by omega) (by simp; omega) ?_; intro g2 c2 w2 hown2 hfr2)
      have hoff : ∀ W, Fr [] w1 W → Off B X' W (fpv vo) := fun W hW => own_off (own_fr Hown1.out hW (by simp)) (by decide) hB
      have ha1 := (Fr.refl [] w1).alloc (.cells #[.int .i64 q0, .int .i64 q1, .string s, .int .i64 sc, .int .i64 t, .slice A1 row.length c1'] 30)
      have Hrel : Hid (w2.ownsRow w.heap.size 30 6 (.slice (some ⟨g2, 0, none⟩) (k + 1) c2) (k + 1) (ecells (es' ++ [((⟨q0, q1, s, sc, t, row⟩ : Ev), Value.slice A1 row.length c1')])) ∧ (es' ++ [((⟨q0, q1, s, sc, t, row⟩ : Ev), Value.slice A1 row.length c1')]).map (·.1) = (es.take (k + 1)).map (·.1) ∧ Rows B X' w2 (es' ++ [((⟨q0, q1, s, sc, t, row⟩ : Ev), Value.slice A1 row.length c1')]) ∧ Fr [] w w2) := by
        refine ⟨?_, ?_, ?_, ?_⟩
        · rw [ecells_snoc]
          exact hown2
        · rw [Hts.out, List.map_append, List.map_append, He.out]
          rfl
        · intro z hz
          rcases List.mem_append.1 hz with hz | hz
          · exact ((HR1.out.quiet ha1).fr hfr2 (hoff _ ha1)) z hz
          · have : z = (⟨q0, q1, s, sc, t, row⟩, .slice A1 row.length c1') := by simpa using hz
            subst this
            exact ⟨(Hrv1.out.quiet ha1).fr hfr2 (hoff _ ha1), Hrr.out.2⟩
        · exact (Hfr1.out.trans ha1).then hfr2 (fun i hi => .inr (own_fp Hown.out i hi).1)
      clear hown2 hfr2 hoff ha1 Hown1 HR1 Hfr1 Hrv1
      go_wp2
      go_roundw
      case rel => exact ⟨k + 1, _, _, rfl, by go_num, by omega, Hrel.out.1, Hrel.out.2.1, Hrel.out.2.2.1, Hrel.out.2.2.2⟩
      case measure => simp [intOf]; omega
    · have hkk : k = es.length := by omega
      subst hkk
      go_wp2
      go_ret
      refine ⟨vo, rfl, es', ?_, Hown.out, HR'.out, Hfr.out⟩
      rw [He.out, List.take_of_length_le (Nat.le_refl _)]

end Go.Proofs.Ytkpmfbcepkpnpaa
