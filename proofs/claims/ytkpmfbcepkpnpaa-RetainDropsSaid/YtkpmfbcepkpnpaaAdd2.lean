/- The store's Add, where it adds. -/
import Derived.Test.YtkpmfbcepkpnpaaAdd
import Derived.Deep.AppendLies
import Derived.Deep.RegionLaw
namespace Go.Proofs.Ytkpmfbcepkpnpaa
open Go.RowKit Go.Shelf

section
variable {B : Nat} {X : List Nat} {w w' : World} {a : Nat} {part first hor : Int} {v : Value} {es : List (Ev × Value)}

set_option maxRecDepth 100000 in
set_option maxHeartbeats 8000000 in
theorem add_ok {X0 : List Nat} (h : St B X w a part first hor v es) (hf0 : 0 ≤ first) (hf1 : first ≤ 1099511627776) (hX : ∀ k, k ∈ X → k < w.heap.size) (hBw : B ≤ w.heap.size) (p q : Int) (s : ByteArray) (sc t : Int) (row : List Vl) (rv : Value) (hr : RV B X0 w rv row)
    (hE : rightE part p s sc t = true) (hRR : rightRow row = true) (hq : q = first + es.length) (hlt : es.length < 2000) :
    Calls Try.prog 10 #[.pointer (some ⟨a, 0, none⟩), .agg #[.int .i64 p, .int .i64 q, .string s, .int .i64 sc, .int .i64 t, rv]] w fun x w' => x = .returned (.int .i64 0) ∧
      ∃ v1 y, St B X w' a part first hor v1 (es ++ [(⟨p, q, s, sc, t, row⟩, y)]) ∧ Fr (fpS a v) w w' ∧ ∀ k, k ∈ fpS a v1 → k ∈ fpS a v ∨ w.heap.size ≤ k := by
  obtain ⟨A, c, hrv⟩ : ∃ A c, rv = .slice A row.length c := by obtain ⟨A, c, h, _⟩ := hr; exact ⟨A, c, h⟩
  subst hrv
  have hrl : row.length ≤ 12 := by
    unfold rightRow at hRR
    simp only [Bool.and_eq_true, decide_eq_true_eq] at hRR
    exact hRR.1
  have H := Lib.hid h
  have HR := Lib.hid hr
  have HE := Lib.hid hE
  have HRR := Lib.hid hRR
  have HX := Lib.hid hX
  have Hrl := Lib.hid hrl
  have hq' : (q != first + es.length) = false := by simpa using hq
  have Hq := Lib.hid hq
  have hW : Fr [] w (w.alloc (.cells #[.int .i64 p, .int .i64 q, .string s, .int .i64 sc, .int .i64 t, .slice A row.length c] 30)) := by (repeat' (first | with_reducible exact Fr.refl _ _ | with_reducible assumption | with_reducible apply Fr.drew | with_reducible apply Fr.drewN | with_reducible apply Fr.alloc | (with_reducible refine Fr.set ?_ (.inr (by first | exact Nat.le_refl _ | exact Nat.le_succ _ | (simp; done) | (simp; omega))) _)))
  have Hright := Lib.hid (right_any (h.quiet hW) p q s sc t A row.length c)
  have hbox := row_new w 30 #[.int .i64 p, .int .i64 q, .string s, .int .i64 sc, .int .i64 t, .slice A row.length c] _ rfl
  have hz : w.heap.size < (w.alloc (.cells #[.int .i64 p, .int .i64 q, .string s, .int .i64 sc, .int .i64 t, .slice A row.length c] 30)).heap.size := by simp
  have HW := Lib.hid hW
  clear h hr hW hE hRR hX hq hrl
  go_enter Try.func10, Try.ntmps10
  go_wp2_with fail
  generalize w.alloc (.cells #[.int .i64 p, .int .i64 q, .string s, .int .i64 sc, .int .i64 t, .slice A row.length c] 30) = W at *
  rw [HE.out] at Hright
  refine Hright.out.mono ?_
  rintro e w1 ⟨rfl, hf⟩
  have r1 := hbox.fr hf (by simp)
  have HF1 := Lib.hid (HW.out.trans hf)
  have hz1 := hf.size
  clear hf hbox
  obtain ⟨k0, k1, k2, k3, k4, k5⟩ := box6 r1
  go_wp2_with fail
  have hRc := rightRow_any (HR.out.quiet HF1.out)
  rw [HRR.out] at hRc
  refine hRc.mono ?_
  rintro e w2 ⟨rfl, hf⟩
  have r2 := r1.fr hf (by simp)
  have HF2 := Lib.hid (HF1.out.trans hf)
  have hz2 := hf.size
  clear hf r1 k0 k1 k2 k3 k4 k5 hRc
  obtain ⟨k0, k1, k2, k3, k4, k5⟩ := box6 r2
  have hst := H.out.quiet HF2.out
  obtain ⟨c0, c1, c2, c3⟩ := hst.cells
  have Hst := Lib.hid hst
  have Hnq := Lib.hid (next_quiet hst hf0 hf1 (by omega))
  have Hr2 := Lib.hid r2
  obtain ⟨A2, cc2, hv2⟩ := H.out.form
  subst hv2
  have hlt' : (es.length : Int) < 2000 := by omega
  have hge : decide ((2000 : Int) ≤ (es.length : Int)) = false := decide_eq_false (by omega)
  clear hst r2
  generalize hn : es.length = n at *
  have Hn := Lib.hid hn
  clear hn
  go_wp2_with fail
  go_quiet ((go_at_call 15; exact Hnq.out _))
  go_wp2_with fail
  generalize hW3 : w2.drewN _ = w3 at *
  have Hst3 : Hid (St B X w3 a part first hor (.slice A2 n cc2) es) := by show St _ _ _ _ _ _ _ _ _; rw [← hW3]; exact Hst.out.quiet ((Fr.refl [] _).drewN _)
  have Hr3 : Hid (Row w3 w.heap.size 30 [.int .i64 p, .int .i64 q, .string s, .int .i64 sc, .int .i64 t, .slice A row.length c]) := by show Row _ _ _ _; rw [← hW3]; exact Hr2.out.drewN _
  have HF3 : Hid (Fr [] w w3) := by show Fr _ _ _; rw [← hW3]; exact HF2.out.drewN _
  clear hW3 k0 k1 k2 k3 k4 k5 c0 c1 c2 c3
  obtain ⟨k0, k1, k2, k3, k4, k5⟩ := box6 Hr3.out
  obtain ⟨_, _, _, c3⟩ := Hst3.out.cells
  have c3' := Hst3.out.row.frozen 3
  have c4 : w3.drew.frozen? ⟨a, 3, none⟩ = false := c3'
  obtain ⟨i0, hi, hzz, hsz, hby⟩ := info_parts info_ev
  have Hi := Lib.hid hi
  have Hz := Lib.hid hzz
  have Hsz := Lib.hid hsz
  have Hby := Lib.hid hby
  clear hi hzz hsz hby
  have hlt3 : w.heap.size < w3.heap.size := Hr3.out.lt
  go_region_law
    (first
      | (go_simp
         go_at_call 26
         refine (event_any p q s sc t (X := X0) (B := B) (row := row) (HR.out.quiet (HF3.out.drew)) (by have := Hrl.out; omega) (by have := HF3.out.size; exact Nat.le_trans hBw this) X (fun k hk => Nat.lt_of_lt_of_le (HX.out k hk) HF3.out.size)).mono ?_
         rintro e w4 ⟨v4, rfl, hrv4, hf4⟩
         obtain ⟨A4, c4', hv4⟩ : ∃ A c, v4 = .slice A row.length c := by obtain ⟨A, c, h, _⟩ := hrv4; exact ⟨A, c, h⟩
         subst hv4
         have hst4 := Hst3.out.quiet ((Fr.refl [] w3).drew.trans hf4)
         obtain ⟨_, _, _, d3⟩ := hst4.cells
         have d4 := hst4.row.frozen 3
         have b4 := Hr3.out.drew.fr hf4 (by simp)
         obtain ⟨q0, q1, q2, q3, q4, q5⟩ := box6 b4
         have HF4 := Lib.hid (HF3.out.drew.trans hf4)
         have hz4 : w3.heap.size ≤ w4.heap.size := hf4.size
         have hnew := row_new w4 30 #[.int .i64 p, .int .i64 q, .string s, .int .i64 sc, .int .i64 t, .slice A4 row.length c4'] _ rfl
         have hst5 := hst4.quiet ((Fr.refl [] w4).alloc (.cells #[.int .i64 p, .int .i64 q, .string s, .int .i64 sc, .int .i64 t, .slice A4 row.length c4'] 30))
         have e3 : (w4.alloc (.cells #[.int .i64 p, .int .i64 q, .string s, .int .i64 sc, .int .i64 t, .slice A4 row.length c4'] 30)).cell? ⟨a, 3, none⟩ = some (.slice A2 n cc2) := by obtain ⟨_, _, _, d⟩ := hst5.cells; exact d
         have e4 := hst5.row.frozen 3
         have b5 := b4.alloc (.cells #[.int .i64 p, .int .i64 q, .string s, .int .i64 sc, .int .i64 t, .slice A4 row.length c4'] 30)
         obtain ⟨q0', q1', q2', q3', q4', q5'⟩ := box6 b5
         have Hst5 := Lib.hid hst5
         have Hb5 := Lib.hid b5
         have Hnew := Lib.hid hnew
         have Hrv5 := Lib.hid (hrv4.quiet ((Fr.refl [] w4).alloc (.cells #[.int .i64 p, .int .i64 q, .string s, .int .i64 sc, .int .i64 t, .slice A4 row.length c4'] 30)))
         clear b4 b5 hst4 hst5 hrv4 hf4 hnew)
      | (refine step_append_lies _ (by rfl) (.tmp 32) (.tmp 35) 27 (by rfl) B 30 i0 _ 6 72 Try.underlying27 Hi.out Hz.out Hsz.out Hby.out (by rfl) (by decide)
           (.slice A2 n cc2) n (ecells es) (by rfl) (by have := Hst5.out.own; rw [Hn.out] at this; exact this) ⟨w4.heap.size, 0, none⟩ 1 1 [.int .i64 p, .int .i64 q, .string s, .int .i64 sc, .int .i64 t, .slice A4 row.length c4'] (by rfl) (by rfl)
           (by intro j u hu; have e1 : (⟨w4.heap.size, 0, none⟩ : Addr).add j = ⟨w4.heap.size, j, none⟩ := by (unfold Addr.add; split <;> simp_all)
               rw [e1, Hnew.out.cell]; exact hu)
           (by intro u hu; simp at hu; rcases hu with rfl | rfl | rfl | rfl | rfl | rfl <;> rfl) (by decide) (by unfold maxLen; omega) (by omega) (by simp; omega) _ (by rfl) ?_
         intro g5 c5 w5 hown5 hgr5 hat5 hlt5
         have hF5 := fr_of_grown hgr5
         have hna : a ∉ fpv (.slice A2 n cc2) := own_ne Hst5.out.own Hst5.out.row (by decide)
         have d5 : w5.cell? ⟨a, 3, none⟩ = some (.slice A2 n cc2) := (hF5.cell Hst5.out.row.lt hna).trans (by obtain ⟨_, _, _, d⟩ := Hst5.out.cells; exact d)
         have d6 : w5.frozen? ⟨a, 3, none⟩ = false := (hF5.fz Hst5.out.row.lt hna).trans (Hst5.out.row.frozen 3)
         obtain ⟨y0, y1, y2, y3, y4, y5⟩ := box6 (Hb5.out.fr hF5 (fun hin => by
           have h1 := own_fp (Hst5.out.own) w.heap.size hin
           have h2 := own_fp (H.out.own) w.heap.size (by simpa [fpv, Value.ownBlock] using hin)
           omega))
         have HF5 := Lib.hid hF5
         have Hown5 := Lib.hid hown5
         have Hat5 := Lib.hid hat5
         clear hF5 hown5 hat5 hgr5 hna))
  all_goals
    go_wp2
    go_ret
    have hst5 := Hst5.out
    have hn := Hn.out
    subst hn
    have hna : a ∉ fpv (.slice (some ⟨g5, 0, none⟩) (es.length + 1) c5) := own_ne Hown5.out (hst5.row.fr HF5.out (own_ne hst5.own hst5.row (by decide))) (by decide)
    have ha2 : a ∉ fpv (.slice A2 es.length cc2) := own_ne hst5.own hst5.row (by decide)
    have hsub : ∀ k, k ∈ fpv (.slice (some ⟨g5, 0, none⟩) (es.length + 1) c5) → k ∈ fpv (.slice A2 es.length cc2) ∨ w.heap.size ≤ k := fun k hk => by
      have : k = g5 := by simpa [fpv, Value.ownBlock] using hk
      subst this
      rcases Hat5.out with h | h
      · exact .inl (by simp only [fpv, h]; simp)
      · right
        have := HF4.out.size
        simp at h
        omega
    have hset : Fr [a] w5 (w5.setCell ⟨a, 3, none⟩ (.slice (some ⟨g5, 0, none⟩) (es.length + 1) c5)) := Fr.set (Fr.refl _ _) (.inl (by simp)) _
    have hdis : ∀ k, k ∈ fpv (.slice (some ⟨g5, 0, none⟩) (es.length + 1) c5) → k ∉ [a] := fun k hk hin => by
      have : k = a := by simpa using hin
      subst this
      exact hna hk
    have hoff : Off B X w5 [a] := row_off (hst5.row.fr HF5.out ha2) (by decide) hst5.ge
    refine ⟨rfl, .slice (some ⟨g5, 0, none⟩) (es.length + 1) c5, ⟨.slice A4 row.length c4', ⟨?_, hst5.ge, ?_, ?_⟩⟩, ?_, ?_⟩
    · exact (hst5.row.fr HF5.out ha2).set 3 _
    · have ho := own_fr Hown5.out hset hdis
      have e1 : (es ++ [((⟨p, q, s, sc, t, row⟩ : Ev), Value.slice A4 row.length c4')]).length = es.length + 1 := by simp
      have e2 : ecells (es ++ [((⟨p, q, s, sc, t, row⟩ : Ev), Value.slice A4 row.length c4')]) = ecells es ++ [.int .i64 p, .int .i64 q, .string s, .int .i64 sc, .int .i64 t, .slice A4 row.length c4'] := by simp [ecells, evCells]
      rw [e1, e2]
      exact ho
    · intro x hx
      rcases List.mem_append.1 hx with hx | hx
      · exact ((hst5.rows.fr HF5.out (own_off hst5.own (by decide) (Nat.le_refl _))).fr hset hoff) x hx
      · have : x = (⟨p, q, s, sc, t, row⟩, .slice A4 row.length c4') := by simpa using hx
        subst this
        exact ⟨(Hrv5.out.fr HF5.out (own_off hst5.own (by decide) (Nat.le_refl _))).fr hset hoff, by have := Hrl.out; simp only; omega⟩
    · have f1 : Fr (fpS a (.slice A2 es.length cc2)) w w5 := ((HF4.out.mono (fun k hk => by cases hk)).alloc _).then HF5.out (fun i hi => .inl (by simp [fpS, hi]))
      exact f1.trans (hset.mono (by intro k hk; simp at hk; simp [fpS, hk]))
    · intro k hk
      rcases List.mem_cons.1 hk with rfl | hk
      · exact .inl (by simp [fpS])
      · exact (hsub k hk).imp (fun h => by simp [fpS, h]) id
end

end Go.Proofs.Ytkpmfbcepkpnpaa
