/- slices.Clone at events; the store's cut and Drop. -/
import Derived.Test.YtkpmfbcepkpnpaaCut
import Derived.StillTailTactics
namespace Go.Proofs.Ytkpmfbcepkpnpaa
open Go.RowKit Go.Shelf

section
variable {B : Nat} {X : List Nat} {w w' : World} {a : Nat} {part first hor : Int} {v : Value} {es : List (Ev × Value)}

set_option maxHeartbeats 1000000 in
theorem clone_evs (A : Option Addr) (c : Nat) (es : List (Ev × Value)) (w : World) (hA : 0 < es.length → ∃ b off, A = some ⟨b, off, none⟩ ∧ Came w b off (ecells es)) (hn : A = none → c = 0) (hR : Rows B X w es) (hl : es.length ≤ 1000000) (hB : B ≤ w.heap.size) :
    Calls Try.prog 35 #[.slice A es.length c] w fun e w' => ∃ v', e = .returned v' ∧ w'.ownsRow w.heap.size 30 6 v' es.length (ecells es) ∧ Fr [] w w' := by
  obtain ⟨i0, hi, hz, hsz, hby⟩ := info_parts info_ev
  have Hi := Lib.hid hi
  have Hz := Lib.hid hz
  have Hsz := Lib.hid hsz
  have Hby := Lib.hid hby
  have HA := Lib.hid hA
  have HR := Lib.hid hR
  clear hi hz hsz hby hA hR
  cases A with
  | none =>
    have h0 : es = [] := by
      cases es with
      | nil => rfl
      | cons x r =>
        obtain ⟨b, off, h1, _⟩ := HA.out (by simp)
        cases h1
    subst h0
    clear HA hl HR
    have q : ∀ (w : World) (a : Option Addr) (n c n' c' : Nat), (binOp .eql 27 (.slice a n c) (.slice none n' c')).run Try.prog w = .ok (.bool a.isNone) w := fun w a n c n' c' => Lib.run_eql_slice_nil w _ _ a n c n' c' Try.underlying27
    go_enter Try.func35, Try.ntmps35
    go_wp2
    go_ret
    exact ⟨_, rfl, World.ownsRow_nil _ _ _ _, Fr.refl _ _⟩
  | some ad =>
    obtain ⟨b, off, spot⟩ := ad
    have q : ∀ (w : World) (a : Option Addr) (n c n' c' : Nat), (binOp .eql 27 (.slice a n c) (.slice none n' c')).run Try.prog w = .ok (.bool a.isNone) w := fun w a n c n' c' => Lib.run_eql_slice_nil w _ _ a n c n' c' Try.underlying27
    have Hsrc : Hid (∀ j u, (ecells es)[j]? = some u → (w.alloc (.cells #[] 30)).cell? ((⟨b, off, spot⟩ : Addr).add j) = some u) := by
      intro j u hu
      have hpos : 0 < es.length := by
        have h1 := (List.getElem?_eq_some_iff.1 hu).1
        rw [ecells_len] at h1
        omega
      obtain ⟨b', off', h1, h2⟩ := HA.out hpos
      injection h1 with h1
      rw [h1]
      have e1 : (⟨b', off', none⟩ : Addr).add j = ⟨b', off' + j, none⟩ := by unfold Addr.add; split <;> simp_all
      rw [e1]
      exact (h2.of_block (w' := w.alloc (.cells #[] 30)) (by simp) (Below.heap_alloc _ _ _ h2.1)).2 j u hu
    have Hl := Lib.hid hl
    clear hl hn
    go_enter Try.func35, Try.ntmps35
    go_wp2_with (at_builtin; refine wpList_append_own _ rfl _ _ 27 rfl w.heap.size 30 i0 _ 6 72 Try.underlying27 Hi.out Hz.out Hsz.out Hby.out rfl (by decide) _ 0 [] rfl (World.ownsRow_made w #[] 0 (Nat.le_refl _) (Nat.zero_le _) (by simp)) ⟨b, off, spot⟩ es.length c (ecells es) rfl ?qc1 ?qc2 ?qc3 ?qc4 ?qc5 ?qc6 ?_)
    case qc1 => exact ecells_len es
    case qc2 => exact Hsrc.out
    case qc3 => exact ecells_one es HR.out
    case qc4 => have := Hl.out; unfold maxLen; omega
    case qc5 => have := Hl.out; omega
    case qc6 => simp
    intro v' w1 hown hgrow hnil
    have Hown := Lib.hid hown
    have Hgrow := Lib.hid hgrow
    clear hown hgrow hnil
    go_wp2
    go_ret
    refine ⟨v', rfl, ?_, ?_⟩
    · have ho := Hown.out
      first | exact ho | (rw [Nat.zero_add, List.nil_append] at ho; exact ho) | (rw [List.nil_append] at ho; exact ho)
    · exact ((Fr.refl [] w).alloc _).grown Hgrow.out (by intro g hg; simp [Value.ownBlock] at hg; exact .inr (by omega))

theorem ecells_drop (es : List (Ev × Value)) (j : Nat) : ecells (es.drop j) = (ecells es).drop (j * 6) := by
  induction es generalizing j with
  | nil => simp [ecells]
  | cons x es ih =>
    cases j with
    | zero => simp
    | succ j =>
      have h := ih j
      have e1 : ecells (x :: es) = evCells x ++ ecells es := by simp [ecells]
      rw [List.drop_succ_cons, h, e1, show (j + 1) * 6 = (evCells x).length + j * 6 by (show (j + 1) * 6 = 6 + j * 6; omega), List.drop_append]
      simp

/-- One more than the greatest time; at least h. -/
def hz (h : Int) (l : List (Ev × Value)) : Int := l.foldl (fun h p => if h < p.1.time + 1 then p.1.time + 1 else h) h
/-- Times as they may be. -/
def Fit (es : List (Ev × Value)) : Prop := ∀ p, p ∈ es → 0 ≤ p.1.time ∧ p.1.time ≤ 1099511627776

theorem cut_fin {w2 : World} {v2 : Value} {z : Int} {j B0 : Nat} (hst : St B X w2 a part first z v es) (hB0 : w.heap.size ≤ B0) (hBw : B ≤ w.heap.size) (hown : w2.ownsRow B0 30 6 v2 (es.length - j) (ecells (es.drop j))) (hfr : Fr [a] w w2) :
    St B X ((w2.setCell ⟨a, 3, none⟩ v2).setCell ⟨a, 1, none⟩ (.int .i64 (first + j))) a part (first + j) z v2 (es.drop j) ∧ Fr (fpS a v) w ((w2.setCell ⟨a, 3, none⟩ v2).setCell ⟨a, 1, none⟩ (.int .i64 (first + j))) ∧ ∀ i, i ∈ fpS a v2 → i = a ∨ w.heap.size ≤ i := by
  have hset : Fr [a] w2 ((w2.setCell ⟨a, 3, none⟩ v2).setCell ⟨a, 1, none⟩ (.int .i64 (first + j))) := Fr.set (Fr.set (Fr.refl _ _) (.inl (by simp)) _) (.inl (by simp)) _
  have hna : a ∉ fpv v2 := own_ne hown hst.row (by decide)
  have hdis : ∀ k, k ∈ fpv v2 → k ∉ [a] := fun k hk hin => by
    have : k = a := by simpa using hin
    subst this
    exact hna hk
  refine ⟨⟨(hst.row.set 3 v2).set 1 _, hst.ge, ?_, fun p hp => (hst.rows.fr hset (row_off hst.row (by decide) hst.ge)) p (List.mem_of_mem_drop hp)⟩, (hfr.trans hset).mono (by intro k hk; simp at hk; simp [fpS, hk]), fun i hi => ?_⟩
  · rw [List.length_drop]
    exact own_base (own_fr hown hset hdis) (Nat.le_trans hBw hB0)
  · rcases List.mem_cons.1 hi with rfl | hi
    · exact .inl rfl
    · exact .inr (Nat.le_trans hB0 (own_fp hown i hi).1)

set_option maxHeartbeats 2000000 in
theorem cut_any (h : St B X w a part first hor v es) (hfit : Fit es) (hf0 : 0 ≤ first) (hf1 : first ≤ 1099511627776) (hl : es.length ≤ 1000000) (k : Nat) (hk : k ≤ es.length) (hBw : B ≤ w.heap.size) :
    Calls Try.prog 27 #[.pointer (some ⟨a, 0, none⟩), .int .i64 k] w fun e w' => e = .returned (.int .i64 k) ∧
      ∃ v1, St B X w' a part (first + k) (hz hor (es.take k)) v1 (es.drop k) ∧ Fr (fpS a v) w w' ∧ ∀ i, i ∈ fpS a v1 → i = a ∨ w.heap.size ≤ i := by
  have H := Lib.hid h
  have Hfit := Lib.hid hfit
  have ha := h.row.lt
  clear h hfit
  go_enter Try.func27, Try.ntmps27
  go_wp2
  go_loopw [5, 7] (fun _ iv wr => ∃ j : Nat, iv = .int .i64 j ∧ j ≤ k ∧ St B X wr a part first (hz hor (es.take j)) v es ∧ Fr [a] w wr) (fun _ iv _ => k - (intOf iv).toNat)
  case atStart => exact ⟨0, rfl, by omega, H.out, Fr.refl _ _⟩
  case round =>
    obtain ⟨j, rfl, hj, hst, hfr⟩ := hrel
    have Hfr := Lib.hid hfr
    have Hst := Lib.hid hst
    clear hfr
    by_cases hlt : j < k
    · obtain ⟨x, hx⟩ : ∃ x, es[j]? = some x := ⟨_, List.getElem?_eq_getElem (by omega)⟩
      obtain ⟨g, c, hv⟩ := own_form hst.own (by omega)
      subst hv
      obtain ⟨c0, c1, c2, c3⟩ := hst.cells
      have ct := own_cell hst.own (j * 6 + 4) (.int .i64 x.1.time) (ecells_at es j x hx 4 _ rfl)
      have hne : g ≠ a := by
        have := own_ne hst.own hst.row (by decide)
        intro e
        exact this (by simp [fpv, Value.ownBlock, e])
      obtain ⟨ht0, ht1⟩ := Hfit.out x (List.mem_of_getElem? hx)
      have hz1 : hz hor (es.take (j + 1)) = if hz hor (es.take j) < x.1.time + 1 then x.1.time + 1 else hz hor (es.take j) := by
        unfold hz
        have hj2 : j < es.length := by omega
        have hv : es[j] = x := by rw [List.getElem?_eq_getElem hj2] at hx; exact Option.some.inj hx
        rw [List.take_succ_eq_append_getElem hj2, List.foldl_append, hv]
        rfl
      have hfz := hst.row.frozen 2
      have Hz1 := Lib.hid hz1
      have hwt : IntKind.i64.wrap (x.1.time + 1) = x.1.time + 1 := by rw [IntKind.wrap_i64]; omega
      have hjn : j < es.length := by omega
      clear hz1 hst hx
      generalize hz hor (es.take j) = z at *
      generalize x.1.time = tm at *
      go_wp2_with fail
      go_still_tail 15, (by kernel_rfl)
      change wpList _ _ _ _ _ wr.drew
      go_wp2
      all_goals
        go_roundw
        case rel =>
          have hs := Hst.out
          have hrow := hs.row.drew
          have hna := own_ne hs.own hs.row (by decide)
          have hset : ∀ u, Fr [a] wr (wr.drew.setCell ⟨a, 2, none⟩ u) := fun u => Fr.set (Fr.refl _ _).drew (.inl (by simp)) _
          refine ⟨j + 1, by go_num, by omega, ⟨?_, hs.ge, own_fr hs.own (hset _) (fun k hk hin => hna (by have e : k = a := (by simpa using hin); rw [← e]; exact hk)), hs.rows.fr (hset _) (row_off hs.row (by decide) hs.ge)⟩, Hfr.out.trans (hset _)⟩
          rw [Hz1.out]
          first
            | exact (hrow.set 2 _)
            | (rw [if_pos (by omega)]; exact (hrow.set 2 _))
            | (rw [if_neg (by omega)]; exact (hrow.set 2 _))
        case measure => simp [intOf]; omega
    · have hjk : j = k := by omega
      subst hjk
      clear hlt
      obtain ⟨c0, c1, c2, c3⟩ := hst.cells
      have hO := hst.own.2
      have hwf : IntKind.i64.wrap (first + (j : Int)) = first + j := by rw [IntKind.wrap_i64]; omega
      have hjn : (j : Int) ≤ (es.length : Int) := by omega
      rcases hO with ⟨hv, h0⟩ | ⟨g, c, cur, hv, hBg, hcur, hnc, hcm, hcs, htk⟩
      · subst hv
        have he : es = [] := List.eq_nil_of_length_eq_zero h0
        subst he
        have hj0 : j = 0 := by simpa using hk
        subst hj0
        have hcl := clone_evs (B := B) (X := X) none 0 [] wr (fun h => absurd h (by simp)) (fun _ => rfl) (fun p hp => by cases hp) (by simp) (Nat.le_trans hBw Hfr.out.size)
        rw [List.length_nil] at hcl
        have Hcl := Lib.hid hcl
        clear hcl hst
        go_wp2_with fail
        have hcl := Hcl.out
        refine hcl.mono ?_
        rintro e w2 ⟨v2, rfl, hown2, hf2⟩
        have hst2 := Hst.out.quiet hf2
        have d3 := hst2.cells.2.2.2
        have d1 := hst2.cells.2.1
        have d4 := hst2.row.frozen 3
        have d5 := hst2.row.frozen 1
        have Hst2 := Lib.hid hst2
        have Hown2 := Lib.hid hown2
        have Hf2 := Lib.hid hf2
        obtain ⟨A2, c2', hv2⟩ : ∃ A c, v2 = .slice A 0 c := by
          rcases hown2.2 with ⟨h1, h2⟩ | ⟨g, c, _, h1, _⟩
          · exact ⟨none, 0, h1⟩
          · exact ⟨_, c, h1⟩
        subst hv2
        clear hst2 hown2 hf2 hcl
        go_wp2
        go_ret
        obtain ⟨g1, g2, g3⟩ := cut_fin (j := 0) Hst2.out Hfr.out.size hBw Hown2.out (Hfr.out.trans (Hf2.out.mono (by simp)))
        have e0 : first + ((0 : Nat) : Int) = first := by omega
        rw [e0] at g1 g2
        refine ⟨rfl, _, ?_, g2, g3⟩
        rw [e0]
        exact g1
      · subst hv
        have hcame : Came wr g 0 (ecells es) := ⟨(own_fp hst.own g (by simp [fpv, Value.ownBlock])).2, fun (i : Nat) (u : Value) hu => by rw [Nat.zero_add]; exact own_cell hst.own i u hu⟩
        have hrows := hst.rows
        have hcl := clone_evs (B := B) (X := X) (some ⟨g, j * 6, none⟩) (c - j) (es.drop j) wr (fun h0 => ⟨g, j * 6, rfl, hcame.1, fun i u hu => by
          have h1 : (ecells es)[j * 6 + i]? = some u := by
            rw [ecells_drop, List.getElem?_drop] at hu
            exact hu
          have h4 := hcame.2 _ _ h1
          rw [Nat.zero_add] at h4
          exact h4⟩) (fun h => by cases h) (fun p hp => hrows p (List.mem_of_mem_drop hp)) (by rw [List.length_drop]; omega) (Nat.le_trans hBw Hfr.out.size)
        rw [List.length_drop] at hcl
        have Hcl := Lib.hid hcl
        have Hrows := Lib.hid hrows
        clear hst hcs htk hcur hcl hcame hrows
        by_cases hjc : j < c
        · have hjc' : (j : Int) < (c : Int) := by omega
          go_wp2_with fail
          have hcl := Hcl.out
          refine hcl.mono ?_
          rintro e w2 ⟨v2, rfl, hown2, hf2⟩
          have hst2 := Hst.out.quiet hf2
          have d3 := hst2.cells.2.2.2
          have d1 := hst2.cells.2.1
          have d4 := hst2.row.frozen 3
          have d5 := hst2.row.frozen 1
          have Hst2 := Lib.hid hst2
          have Hown2 := Lib.hid hown2
          have Hf2 := Lib.hid hf2
          obtain ⟨A2, c2', hv2⟩ : ∃ A c, v2 = .slice A (es.length - j) c := by
            rcases hown2.2 with ⟨h1, h2⟩ | ⟨g, c, _, h1, _⟩
            · exact ⟨none, 0, by rw [h1, h2]⟩
            · exact ⟨_, c, h1⟩
          subst hv2
          clear hst2 hown2 hf2 hcl
          go_wp2
          go_ret
          obtain ⟨g1, g2, g3⟩ := cut_fin Hst2.out Hfr.out.size hBw Hown2.out (Hfr.out.trans (Hf2.out.mono (by simp)))
          exact ⟨rfl, _, g1, g2, g3⟩
        · have hjc2 : c = j := by omega
          subst hjc2
          have hnl : es.length = c := by omega
          have hdr : es.drop c = [] := List.drop_eq_nil_of_le (by omega)
          have hcl2 := clone_evs (B := B) (X := X) (some ⟨g, 0, none⟩) 0 [] wr (fun h => absurd h (by simp)) (fun h => by cases h) (fun p hp => by cases hp) (by simp) (Nat.le_trans hBw Hfr.out.size)
          rw [List.length_nil] at hcl2
          have Hcl2 := Lib.hid hcl2
          have Hnl := Lib.hid hnl
          have Hdr := Lib.hid hdr
          clear hcl2 Hcl hnl hdr
          go_wp2_with fail
          have hcl := Hcl2.out
          refine hcl.mono ?_
          rintro e w2 ⟨v2, rfl, hown2, hf2⟩
          have hst2 := Hst.out.quiet hf2
          have d3 := hst2.cells.2.2.2
          have d1 := hst2.cells.2.1
          have d4 := hst2.row.frozen 3
          have d5 := hst2.row.frozen 1
          have Hst2 := Lib.hid hst2
          have Hown2 := Lib.hid hown2
          have Hf2 := Lib.hid hf2
          obtain ⟨A2, c2', hv2⟩ : ∃ A c, v2 = .slice A 0 c := by
            rcases hown2.2 with ⟨h1, h2⟩ | ⟨g, c, _, h1, _⟩
            · exact ⟨none, 0, h1⟩
            · exact ⟨_, c, h1⟩
          subst hv2
          clear hst2 hown2 hf2 hcl
          go_wp2
          go_ret
          have hown3 := Hown2.out
          obtain ⟨g1, g2, g3⟩ := cut_fin (j := c) Hst2.out Hfr.out.size hBw (by rw [Hdr.out, show es.length - c = 0 from by have := Hnl.out; omega]; exact hown3) (Hfr.out.trans (Hf2.out.mono (by simp)))
          exact ⟨rfl, _, g1, g2, g3⟩

theorem drop_any (h : St B X w a part first hor v es) (hfit : Fit es) (hf0 : 0 ≤ first) (hf1 : first ≤ 1099511627776) (hl : es.length ≤ 1000000) (pos : Int) (hBw : B ≤ w.heap.size) :
    Calls Try.prog 11 #[.pointer (some ⟨a, 0, none⟩), .int .i64 pos] w fun e w' => e = .returned (.int .i64 (plc first es.length pos)) ∧
      ∃ v1, St B X w' a part (first + plc first es.length pos) (hz hor (es.take (plc first es.length pos))) v1 (es.drop (plc first es.length pos)) ∧ Fr (fpS a v) w w' ∧ ∀ i, i ∈ fpS a v1 → i = a ∨ w.heap.size ≤ i := by
  have hple : plc first es.length pos ≤ es.length := by unfold plc; split; simp; split <;> omega
  have Hp := Lib.hid (place_any h hf0 hf1 hl pos)
  have H := Lib.hid h
  have Hfit := Lib.hid hfit
  clear h hfit
  generalize plc first es.length pos = k at *
  have Hk := Lib.hid hple
  go_enter Try.func11, Try.ntmps11
  go_wp2_with fail
  refine Hp.out.mono ?_
  rintro e w1 ⟨rfl, n, rfl⟩
  go_wp2_with fail
  refine (cut_any (H.out.quiet ((Fr.refl [] w).drewN n)) Hfit.out hf0 hf1 hl k Hk.out hBw).mono ?_
  rintro e w2 ⟨rfl, v1, h1, h2, h3⟩
  have H1 := Lib.hid h1
  have H2 := Lib.hid h2
  have H3 := Lib.hid h3
  clear h1 h2 h3
  go_wp2
  go_ret
  exact ⟨rfl, v1, H1.out, ((Fr.refl _ w).drewN n).trans H2.out, H3.out⟩
end

end Go.Proofs.Ytkpmfbcepkpnpaa
