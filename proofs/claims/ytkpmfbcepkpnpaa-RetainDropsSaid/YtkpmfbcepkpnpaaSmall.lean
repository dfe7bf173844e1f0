/- What the laws share: stores beside each other; small. -/
import Derived.Test.YtkpmfbcepkpnpaaSlice2
namespace Go.Proofs.Ytkpmfbcepkpnpaa
open Go.RowKit Go.Shelf

section
variable {B : Nat} {X : List Nat} {w w' : World} {a : Nat} {part first hor : Int} {v : Value} {es : List (Ev × Value)}
theorem RV.nil (B : Nat) (X : List Nat) (w : World) : RV B X w (.slice none 0 0) [] := ⟨none, 0, rfl, by decide, fun h => absurd h (by simp)⟩
theorem St.off2 {X2 : List Nat} (h : St B X w a part first hor v es) : Off B X2 w (fpS a v) := fun k hk => by
  rcases List.mem_cons.1 hk with rfl | hk
  · exact row_off h.row (by decide) h.ge k (by simp)
  · exact own_off h.own (by decide) (Nat.le_refl _) k hk
/-- A block of another type is none of the store's. -/
theorem St.out {g : Nat} {t : TypeId} {cs : List Value} (h : St B X w a part first hor v es) (hr : Row w g t cs) (h1 : t ≠ 30) (h2 : t ≠ 52) : g ∉ fpS a v := fun hk => by
  rcases List.mem_cons.1 hk with rfl | hk
  · exact (hr.ne h.row h2) rfl
  · exact own_ne h.own hr (Ne.symm h1) hk
/-- A store beside one that was written. -/
theorem St.beside {X2 : List Nat} {a2 : Nat} {part2 first2 hor2 : Int} {v2 : Value} {es2 : List (Ev × Value)} (h2 : St B X2 w a2 part2 first2 hor2 v2 es2) (h : St B X w a part first hor v es) (hf : Fr (fpS a v) w w') (hd : ∀ k, k ∈ fpS a2 v2 → k ∉ fpS a v) : St B X2 w' a2 part2 first2 hor2 v2 es2 :=
  h2.fr hf hd h.off2
theorem frIn {S : List Nat} {w0 : World} (h : Fr [] w0 w) (k : Fr S w w') (hs : ∀ i, i ∈ S → w0.heap.size ≤ i) : Fr [] w0 w' := h.then k (fun i hi => .inr (hs i hi))
end

/-- What of the stored events the laws speak of. -/
def evs (es : List (Ev × Value)) : List Ev := es.map (·.1)

def smallEvs : List Ev := [⟨2, 0, ⟨#[97]⟩, 0, 5, []⟩, ⟨2, 1, ⟨#[97]⟩, 0, 9, []⟩, ⟨2, 2, ⟨#[97]⟩, 0, 7, []⟩]
/-- One more than the greatest time; at least h. -/
def hzE (h : Int) (l : List Ev) : Int := l.foldl (fun h p => if h < p.time + 1 then p.time + 1 else h) h
theorem hz_evs (h : Int) (l : List (Ev × Value)) : hz h l = hzE h (evs l) := by
  unfold hz hzE evs
  rw [List.foldl_map]
def leadE (t : Int) : List Ev → Nat
  | [] => 0
  | x :: l => if t ≤ x.time then 0 else leadE t l + 1
theorem lead_evs (t : Int) (l : List (Ev × Value)) : lead t l = leadE t (evs l) := by
  induction l with
  | nil => rfl
  | cons x l ih =>
    simp only [lead, evs, List.map_cons, leadE]
    rw [ih]
    rfl
def lateE (t : Int) (x : Ev) : Bool := decide (t ≤ x.time)
theorem filter_evs (t : Int) (l : List (Ev × Value)) : (l.filter (late t)).map (·.1) = (evs l).filter (lateE t) := by
  unfold evs
  rw [List.filter_map]
  rfl
theorem evs_take (l : List (Ev × Value)) (k : Nat) : evs (l.take k) = (evs l).take k := by simp [evs, List.map_take]
theorem evs_drop (l : List (Ev × Value)) (k : Nat) : evs (l.drop k) = (evs l).drop k := by simp [evs, List.map_drop]
theorem evs_len (l : List (Ev × Value)) : (evs l).length = l.length := by simp [evs]
theorem fit_of {es : List (Ev × Value)} (h : ∀ e, e ∈ evs es → 0 ≤ e.time ∧ e.time ≤ 1099511627776) : Fit es := fun p hp => h p.1 (List.mem_map_of_mem hp)

set_option maxHeartbeats 4000000 in
theorem small_any (w : World) : Calls Try.prog 6 #[] w fun e w' => e = .returned (.bool true) ∧ Fr [] w w' := by
  go_enter Try.func6, Try.ntmps6
  go_wp2_with fail
  refine (new_any 2 w w.heap.size [] (Nat.le_refl _)).mono ?_
  rintro e w1 ⟨a, rfl, ha, hst, hf⟩
  have Hst := Lib.hid hst
  have Hf := Lib.hid hf
  have hz1 := hst.row.lt
  have hz0 := hf.size
  clear hst hf
  go_wp2
  have hrt : Row (w1.alloc (.cells #[.int .i64 5, .int .i64 9, .int .i64 7] 3)) w1.heap.size 3 [.int .i64 5, .int .i64 9, .int .i64 7] := row_new _ _ _ _ rfl
  have Hrt := Lib.hid hrt
  have hfa : Fr [] w1 (w1.alloc (.cells #[.int .i64 5, .int .i64 9, .int .i64 7] 3)) := by (repeat' (first | with_reducible exact Fr.refl _ _ | with_reducible assumption | with_reducible apply Fr.drew | with_reducible apply Fr.drewN | with_reducible apply Fr.alloc | (with_reducible refine Fr.set ?_ (.inr (by first | exact Nat.le_refl _ | exact Nat.le_succ _ | (simp; done) | (simp; omega))) _)))
  have Hst1 := Lib.hid (Hst.out.quiet hfa)
  have Hf1 := Lib.hid (Hf.out.trans hfa)
  clear hrt hfa Hst Hf
  generalize w1.heap.size = g at *
  go_loopw [3] (fun iv wr => ∃ (k : Nat) (v : Value) (es : List (Ev × Value)), iv = .int .i64 k ∧ k ≤ 3 ∧ St w.heap.size [] wr a 2 0 0 v es ∧ evs es = smallEvs.take k ∧ Row wr g 3 [.int .i64 5, .int .i64 9, .int .i64 7] ∧ Fr [] w wr) (fun iv _ => 3 - (intOf iv).toNat)
  case atStart => exact ⟨0, _, [], rfl, by omega, Hst1.out, rfl, Hrt.out, Hf1.out⟩
  case round =>
    obtain ⟨k, v, es, rfl, hk, hst, he, hr, hf⟩ := hrel
    have hlen : es.length = min k 3 := by
      have := congrArg List.length he
      unfold evs at this
      rw [List.length_map, List.length_take] at this
      exact this
    by_cases hlt : k < 3
    · have hrc := hr.cell k
      have hlt' : (k : Int) < 3 := by omega
      obtain ⟨t, ht⟩ : ∃ t : Int, t = if k = 0 then 5 else if k = 1 then 9 else 7 := ⟨_, rfl⟩
      have htc : wr.cell? ⟨g, k, none⟩ = some (.int .i64 t) := by
        rw [hrc]
        rcases (show k = 0 ∨ k = 1 ∨ k = 2 by omega) with rfl | rfl | rfl <;> (subst ht; rfl)
      have hsm : Hid (smallEvs.take (k + 1) = smallEvs.take k ++ [⟨2, k, ⟨#[97]⟩, 0, t, []⟩]) := by
        show _ = _
        rcases (show k = 0 ∨ k = 1 ∨ k = 2 by omega) with rfl | rfl | rfl <;> (subst ht; rfl)
      have htb : 0 ≤ t ∧ t ≤ 1099511627776 := by
        rcases (show k = 0 ∨ k = 1 ∨ k = 2 by omega) with rfl | rfl | rfl <;> (subst ht; decide)
      obtain ⟨ht0, ht1⟩ := htb
      have hgl := hr.lt
      have Hst := Lib.hid hst
      have He := Lib.hid he
      have Hr := Lib.hid hr
      have Hf := Lib.hid hf
      have Hlen := Lib.hid hlen
      clear hst he hr hf hrc ht hlen
      go_wp2_with fail
      refine (add_ok Hst.out (by omega) (by omega) (fun k hk => by cases hk) Hf.out.size 2 k ⟨#[97]⟩ 0 t [] (.slice none 0 0) (RV.nil _ [] _) (by unfold rightE; exact decide_eq_true ⟨rfl, by decide, by omega, ht0, ht1⟩) (by decide) (by rw [Hlen.out]; omega) (by rw [Hlen.out]; omega)).mono ?_
      rintro e w2 ⟨rfl, v2, y, hst2, hf2, hfp⟩
      have hout := Hst.out.out Hr.out (by decide) (by decide)
      have Hr2 := Lib.hid (Hr.out.fr hf2 hout)
      have Hst2 := Lib.hid hst2
      have Hf2 := Lib.hid (frIn Hf.out hf2 (fun i hi => (Hst.out.fp_ge i hi).1))
      clear hst2 hf2 hfp hout
      go_wp2
      go_roundw
      case rel => exact ⟨k + 1, v2, _, by go_num, by omega, Hst2.out, by rw [hsm.out, ← He.out]; simp [evs], Hr2.out, Hf2.out⟩
      case measure => simp [intOf]; omega
    · have hk3 : k = 3 := by omega
      subst hk3
      have hev : evs es = smallEvs := he
      have hl3 : es.length = 3 := hlen
      have Hst := Lib.hid hst
      have Hf := Lib.hid hf
      have Hev := Lib.hid hev
      have Hl := Lib.hid hl3
      clear hst hf he hev hl3 hr hlen
      go_wp2_with fail
      refine (copy_any Hst.out (by rw [Hl.out]; decide) Hf.out.size [] (fun k hk => by cases hk)).mono ?_
      rintro e w2 ⟨a2, rfl, v2, es2, hes2, hst2, hf2, hfp2⟩
      have hd2 : ∀ i, i ∈ fpS a2 v2 → i ∉ fpS a v := fun i hi hin => by
        have h1 := hfp2 i hi
        have h2 := (Hst.out.fp_ge i hin).2
        omega
      have hev2 : evs es2 = smallEvs := hes2.trans Hev.out
      have Hst1 := Lib.hid (Hst.out.quiet hf2)
      have Hst2 := Lib.hid hst2
      have Hf2 := Lib.hid (Hf.out.trans hf2)
      have Hd2 := Lib.hid hd2
      have Hev2 := Lib.hid hev2
      clear hes2 hst2 hf2 hfp2 hd2 hev2
      go_wp2_with fail
      have hn := next_any Hst1.out (by omega) (by omega) (by rw [Hl.out]; decide)
      rw [Hl.out] at hn
      refine hn.mono ?_
      rintro e w3 ⟨rfl, hf3, _⟩
      have Hst3 := Lib.hid (Hst1.out.quiet hf3)
      have Hc3 := Lib.hid (Hst2.out.quiet hf3)
      have Hf3 := Lib.hid (Hf2.out.trans hf3)
      clear hn hf3
      go_wp2_with fail
      have hfit : Fit es := fit_of (by rw [Hev.out]; decide)
      have hp : plc 0 es.length 2 = 2 := by rw [Hl.out]; decide
      have hdr := drop_any Hst3.out hfit (by omega) (by omega) (by rw [Hl.out]; decide) 2 Hf3.out.size
      rw [hp] at hdr
      refine hdr.mono ?_
      rintro e w4 ⟨rfl, v4, hst4, hf4, hfp4⟩
      have hh : hz 0 (es.take 2) = 10 := by rw [hz_evs, evs_take, Hev.out]; decide
      rw [hh] at hst4
      have hd4 : ∀ i, i ∈ fpS a2 v2 → i ∉ fpS a v4 := fun i hi hin => by
        rcases hfp4 i hin with rfl | h
        · exact Hd2.out _ hi (by simp [fpS])
        · have := (Hc3.out.fp_ge i hi).2
          omega
      have hev4 : evs (es.drop 2) = [⟨2, 2, ⟨#[97]⟩, 0, 7, []⟩] := by rw [evs_drop, Hev.out]; rfl
      have Hc4 := Lib.hid (Hc3.out.beside Hst3.out hf4 Hd2.out)
      have Hst4 := Lib.hid hst4
      have Hf4 := Lib.hid (frIn Hf3.out hf4 (fun i hi => (Hst3.out.fp_ge i hi).1))
      have Hd4 := Lib.hid hd4
      have Hev4 := Lib.hid hev4
      clear hfit hp hdr hst4 hf4 hfp4 hh hd4 hev4
      generalize es.drop 2 = es4 at *
      have hl4 : es4.length = 1 := by have := congrArg List.length Hev4.out; rw [evs_len] at this; exact this
      have Hl4 := Lib.hid hl4
      clear hl4
      go_wp2_with (first
        | (go_at_call 13; refine (first_any Hst4.out).mono ?_; rintro e w4' ⟨rfl, rfl⟩)
        | (go_at_call 14; refine (horizon_any Hst4.out).mono ?_; rintro e w4' ⟨rfl, rfl⟩))
      refine (from_any Hst4.out (by rw [Hl4.out]; decide) 0 Hf4.out.size [] (fun k hk => by cases hk)).mono ?_
      rintro e w5 ⟨v5, rfl, es5, hes5, hown5, hR5, hf5⟩
      rw [filter_evs, Hev4.out] at hes5
      have hl5 : es5.length = 1 := by have := congrArg List.length hes5; rw [List.length_map] at this; exact this
      rw [hl5] at hown5
      obtain ⟨g5, c5, rfl⟩ := own_form hown5 (by decide)
      obtain ⟨x5, hx5⟩ : ∃ x, es5 = [x] := by
        match es5, hl5 with
        | [x], _ => exact ⟨x, rfl⟩
      subst hx5
      have hx5 : x5.1 = ⟨2, 2, ⟨#[97]⟩, 0, 7, []⟩ := by
        have : [x5.1] = _ := hes5
        exact (List.cons.inj this).1
      have Hx5 := Lib.hid hx5
      have Hown5 := Lib.hid hown5
      have Hst5 := Lib.hid (Hst4.out.quiet hf5)
      have Hc5 := Lib.hid (Hc4.out.quiet hf5)
      have Hf5 := Lib.hid (Hf4.out.trans hf5)
      clear hes5 hl5 hown5 hR5 hf5 hx5
      go_wp2_with fail
      have hsl := slice_any Hst5.out (by omega) (by omega) (by rw [Hl4.out]; decide) 0 9 Hf5.out.size [] (fun k hk => by cases hk)
      rw [show plc (0 + ((2 : Nat) : Int)) es4.length 0 = 0 from by rw [Hl4.out]; decide, show (9 : Int).toNat = 9 from rfl, List.drop_zero, List.take_of_length_le (by rw [Hl4.out]; decide)] at hsl
      refine hsl.mono ?_
      rintro e w6 ⟨v6, rfl, es6, hes6, hown6, hR6, hf6⟩
      have hes6' : es6.map (·.1) = evs es4 := hes6
      rw [Hev4.out] at hes6'
      have hl6 : es6.length = 1 := by have := congrArg List.length hes6'; rw [List.length_map] at this; exact this
      rw [hl6] at hown6
      obtain ⟨g6, c6, rfl⟩ := own_form hown6 (by decide)
      obtain ⟨x6, hx6⟩ : ∃ x, es6 = [x] := by
        match es6, hl6 with
        | [x], _ => exact ⟨x, rfl⟩
      subst hx6
      have hx6 : x6.1 = ⟨2, 2, ⟨#[97]⟩, 0, 7, []⟩ := by
        have : [x6.1] = _ := hes6'
        exact (List.cons.inj this).1
      have hown5' := own_fr Hown5.out hf6 (by simp)
      have k5 : w6.cell? ⟨g5, 1, none⟩ = some (.int .i64 2) := by
        have h := own_cell hown5' 1 (.int .i64 x5.1.pos) rfl
        rw [Hx5.out] at h
        exact h
      have k6 : w6.cell? ⟨g6, 4, none⟩ = some (.int .i64 7) := by
        have h := own_cell hown6 4 (.int .i64 x6.1.time) rfl
        rw [hx6] at h
        exact h
      have Hst6 := Lib.hid (Hst5.out.quiet hf6)
      have Hc6 := Lib.hid (Hc5.out.quiet hf6)
      have Hf6 := Lib.hid (Hf5.out.trans hf6)
      clear hsl hes6 hes6' hl6 hown6 hR6 hf6 hx6 hown5'
      go_wp2_with fail
      have hl2 : es2.length = 3 := by have := congrArg List.length Hev2.out; rw [evs_len] at this; exact this
      have hfit2 : Fit es2 := fit_of (by rw [Hev2.out]; decide)
      have htr := trim_any Hc6.out hfit2 (by omega) (by omega) (by rw [hl2]; decide) 8 Hf6.out.size
      rw [show lead 8 es2 = 1 from by rw [lead_evs, Hev2.out]; decide, show hz 0 (es2.take 1) = 6 from by rw [hz_evs, evs_take, Hev2.out]; decide] at htr
      refine htr.mono ?_
      rintro e w7 ⟨rfl, v7, hst7, hf7, _⟩
      have Hst7 := Lib.hid hst7
      have Hf7 := Lib.hid (frIn Hf6.out hf7 (fun i hi => (Hc6.out.fp_ge i hi).1))
      clear hl2 hfit2 htr hst7 hf7 k5 k6
      go_wp2_with (first
        | (go_at_call 14; refine (horizon_any Hst7.out).mono ?_; rintro e w7' ⟨rfl, rfl⟩)
        | (go_at_call 22; refine (part_any Hst7.out).mono ?_; rintro e w7' ⟨rfl, rfl⟩))
      go_ret
      exact ⟨rfl, Hf7.out⟩

end Go.Proofs.Ytkpmfbcepkpnpaa
