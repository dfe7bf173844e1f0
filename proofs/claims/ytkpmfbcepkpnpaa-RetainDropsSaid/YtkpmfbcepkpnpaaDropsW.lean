/- The walk of RetainDrops. -/
import Derived.Test.YtkpmfbcepkpnpaaDropsP
import Derived.Deep.DeepCutAuto
import Derived.Deep.CutBlock
namespace Go.Proofs.Ytkpmfbcepkpnpaa
open Go.RowKit Go.Shelf

theorem addr_off (b o j : Nat) : (⟨b, o, none⟩ : Addr).add j = ⟨b, o + j, none⟩ := by unfold Addr.add; split <;> simp_all
theorem right0 (t : Int) (h0 : 0 ≤ t) (h1 : t ≤ 1099511627776) : rightE 0 0 ⟨#[]⟩ 0 t = true := by
  unfold rightE
  exact decide_eq_true ⟨rfl, by decide, by omega, h0, h1⟩
theorem row7_right : rightRow row7 = true := by first | rfl | decide +kernel | simp [rightRow, row7, rightV]
/-- The law's store: the events' times, and their rows. -/
structure DS (B : Nat) (X : List Nat) (wr : World) (a : Nat) (first hor : Int) (v : Value) (es : List (Ev × Value)) (ts : List Int) : Prop where
  st : St B X wr a 0 first hor v es
  times : (evs es).map (·.time) = ts
  row : ∀ e, e ∈ evs es → e.row = row7
  fit : ∀ t, t ∈ ts → 0 ≤ t ∧ t ≤ 1099511627776
section
variable {B : Nat} {X : List Nat} {w w' : World} {a : Nat} {first hor : Int} {v : Value} {es : List (Ev × Value)} {ts : List Int}
theorem DS.len (h : DS B X w a first hor v es ts) : es.length = ts.length := by
  rw [← h.times, List.length_map, evs_len]
theorem DS.fitS (h : DS B X w a first hor v es ts) : Fit es := fit_of (fun e he => h.fit e.time (by rw [← h.times]; exact List.mem_map_of_mem he))
theorem DS.quiet (h : DS B X w a first hor v es ts) (hf : Fr [] w w') : DS B X w' a first hor v es ts := ⟨h.st.quiet hf, h.times, h.row, h.fit⟩
theorem DS.snoc (h : DS B X w a first hor v es ts) {v1 y : Value} {e : Ev} (hst : St B X w' a 0 first hor v1 (es ++ [(e, y)])) (ht : 0 ≤ e.time ∧ e.time ≤ 1099511627776) (hr : e.row = row7) : DS B X w' a first hor v1 (es ++ [(e, y)]) (ts ++ [e.time]) := by
  have e1 : evs (es ++ [(e, y)]) = evs es ++ [e] := by simp [evs]
  refine ⟨hst, by rw [e1, List.map_append, h.times]; rfl, fun x hx => ?_, fun t hx => ?_⟩
  · rw [e1] at hx
    rcases List.mem_append.1 hx with hx | hx
    · exact h.row x hx
    · have : x = e := by simpa using hx
      subst this
      exact hr
  · rcases List.mem_append.1 hx with hx | hx
    · exact h.fit t hx
    · have : t = e.time := by simpa using hx
      subst this
      exact ht
end

/-- The law's own times: of the first k the masked ones. -/
def TR (w : World) (g k : Nat) (ts zs : List Int) : Prop := ∃ cs : List Value, Row w g 3 cs ∧ (∀ (j : Nat) (t : Int), j < k → ts[j]? = some t → cs[j]? = some (.int .i64 t)) ∧ (∀ (j : Nat) (z : Int), k ≤ j → zs[j]? = some z → cs[j]? = some (.int .i64 z))
theorem TR.fr {w w' : World} {g k : Nat} {ts zs : List Int} {S : List Nat} (h : TR w g k ts zs) (hf : Fr S w w') (hg : g ∉ S) : TR w' g k ts zs := by
  obtain ⟨cs, h1, h2, h3⟩ := h
  exact ⟨cs, h1.fr hf hg, h2, h3⟩
theorem TR.row {w : World} {g k : Nat} {ts zs : List Int} (h : TR w g k ts zs) : ∃ cs, Row w g 3 cs := by
  obtain ⟨cs, h1, _⟩ := h
  exact ⟨cs, h1⟩
theorem TR.set {w : World} {g k : Nat} {ts zs : List Int} (h : TR w g k ts zs) (t : Int) (ht : ts[k]? = some t) (z : Int) (hz : zs[k]? = some z) : TR (w.setCell ⟨g, k, none⟩ (.int .i64 t)) g (k + 1) ts zs := by
  obtain ⟨cs, h1, h2, h3⟩ := h
  have hkl : k < cs.length := (List.getElem?_eq_some_iff.1 (h3 k z (Nat.le_refl _) hz)).1
  refine ⟨cs.set k (.int .i64 t), h1.set k _, fun j t' hj ht' => ?_, fun j z' hj hz' => ?_⟩
  · by_cases e : j = k
    · subst e
      rw [ht] at ht'
      injection ht' with ht'
      subst ht'
      rw [List.getElem?_set_self hkl]
    · rw [List.getElem?_set_ne (by omega)]
      exact h2 j t' (by omega) ht'
  · rw [List.getElem?_set_ne (by omega)]
    exact h3 j z' (by omega) hz'
theorem TR.cell {w : World} {g k : Nat} {ts zs : List Int} (h : TR w g k ts zs) (j : Nat) (t : Int) (hj : j < k) (ht : ts[j]? = some t) : w.cell? ⟨g, j, none⟩ = some (.int .i64 t) := by
  obtain ⟨cs, h1, h2, _⟩ := h
  rw [h1.cell]
  exact h2 j t hj ht
theorem TR.cell2 {w : World} {g k : Nat} {ts zs : List Int} (h : TR w g k ts zs) (j : Nat) (z : Int) (hj : k ≤ j) (ht : zs[j]? = some z) : w.cell? ⟨g, j, none⟩ = some (.int .i64 z) := by
  obtain ⟨cs, h1, _, h3⟩ := h
  rw [h1.cell]
  exact h3 j z hj ht
theorem TR.free {w : World} {g k : Nat} {ts zs : List Int} (h : TR w g k ts zs) (j : Nat) : w.frozen? ⟨g, j, none⟩ = false := by
  obtain ⟨cs, h1, _⟩ := h
  exact h1.frozen j

/-- The law's copy of the times. -/
theorem info_i : (Try.prog.info? 3).map (fun i => (i.zero, i.size, i.bytes)) = some (some (.int .i64 0), 1, 8) := by kernel_rfl

set_option maxRecDepth 100000 in
theorem drops_out (A : Option Addr) (len cap : Nat) (pos time : Int) (w : World) (h : len > 100) :
    Calls Try.prog 4 #[.slice A len cap, .int .i64 pos, .int .i64 time] w fun e w' => e = .returned (.bool true) ∧ Fr [] w w' := by
  have hsm := Lib.hid (small_any w)
  have h1 : (100 : Int) < (len : Int) := by omega
  clear h
  go_enter Try.func4, Try.ntmps4
  go_wp2_with (go_at_call 6; refine hsm.out.mono ?_; rintro e w0 ⟨rfl, hf⟩; have Hf := Lib.hid hf; clear hf)
  go_ret
  exact ⟨rfl, Hf.out⟩

set_option maxRecDepth 100000 in
set_option maxHeartbeats 8000000 in
theorem drops_main (A : Option Addr) (cap : Nat) (zs : List Int) (pos time : Int) (w : World) (hl : zs.length ≤ 100) (hA : 0 < zs.length → ∃ b off, A = some ⟨b, off, none⟩ ∧ Came w b off (zs.map (Value.int .i64))) (hn : A = none → cap = 0) :
    Calls Try.prog 4 #[.slice A zs.length cap, .int .i64 pos, .int .i64 time] w fun e w' => e = .returned (.bool true) ∧ Fr [] w w' := by
  have hsm := Lib.hid (small_any w)
  have HA := Lib.hid hA
  have hd1 : decide ((100 : Int) < (zs.length : Int)) = false := decide_eq_false (by omega)
  obtain ⟨i0, hi, hzz, hsz, hby⟩ := info_parts info_i
  have Hi := Lib.hid hi
  have Hz := Lib.hid hzz
  have Hsz := Lib.hid hsz
  have Hby := Lib.hid hby
  have Hn := Lib.hid hn
  clear hA hn hi hzz hsz hby
  go_enter Try.func4, Try.ntmps4
  go_wp2_with fail
  refine hsm.out.mono ?_
  rintro e w0 ⟨rfl, hf0⟩
  have Hf0 := Lib.hid hf0
  clear hf0
  go_wp2_with fail
  refine (new_any 0 w0 w.heap.size [] Hf0.out.size).mono ?_
  rintro e w1 ⟨a, rfl, ha, hst, hf⟩
  have Hst := Lib.hid hst
  have Hf1 := Lib.hid (Hf0.out.trans hf)
  have hz1 := Hf1.out.size
  have hal := hst.row.lt
  clear hst hf
  go_upto_region 8 with fail
  have hr7 : Row (w1.alloc (.cells #[.int .i64 0, .int .i64 7, .string ⟨#[]⟩] 44)) w1.heap.size 44 [.int .i64 0, .int .i64 7, .string ⟨#[]⟩] := row_new _ _ _ _ rfl
  have hfa : Fr [] w1 (w1.alloc (.cells #[.int .i64 0, .int .i64 7, .string ⟨#[]⟩] 44)) := by (repeat' (first | with_reducible exact Fr.refl _ _ | with_reducible assumption | with_reducible apply Fr.drew | with_reducible apply Fr.drewN | with_reducible apply Fr.alloc | (with_reducible refine Fr.set ?_ (.inr (by first | exact Nat.le_refl _ | exact Nat.le_succ _ | (simp; done) | (simp; omega))) _)))
  have hst1 : St w.heap.size [w1.heap.size] (w1.alloc (.cells #[.int .i64 0, .int .i64 7, .string ⟨#[]⟩] 44)) a 0 0 0 (.slice none 0 0) [] := ⟨(Hst.out.quiet hfa).row, (Hst.out.quiet hfa).ge, (Hst.out.quiet hfa).own, fun p hp => absurd hp (by simp)⟩
  have Hr7 := Lib.hid hr7
  have Hf2 := Lib.hid (Hf1.out.trans hfa)
  have Hst1 := Lib.hid hst1
  have hz2 : w1.heap.size < (w1.alloc (.cells #[.int .i64 0, .int .i64 7, .string ⟨#[]⟩] 44)).heap.size := by simp
  clear hr7 hfa hst1 Hst Hf0 Hf1
  generalize w1.alloc (.cells #[.int .i64 0, .int .i64 7, .string ⟨#[]⟩] 44) = w2 at *
  generalize w1.heap.size = gr at *
  go_cut [0] (fun s0 wx => ∃ (g c : Nat), s0 = .slice (some ⟨g, 0, none⟩) zs.length c ∧ zs.length ≤ c ∧ w.heap.size ≤ g ∧ TR wx g 0 [] zs ∧ Fr [] w2 wx)
  case first =>
    cases A with
    | none =>
      have hc0 := Hn.out rfl
      subst hc0
      have hz0 : zs = [] := by
        cases zs with
        | nil => rfl
        | cons x r =>
          obtain ⟨b, off, h1, _⟩ := HA.out (by simp)
          cases h1
      subst hz0
      go_wp2_with (at_builtin; refine wpList_append_own_none rfl _ _ 42 rfl w2.heap.size 3 i0 1 Try.underlying42 Hi.out _ 0 [] rfl (World.ownsRow_made w2 #[] 0 (Nat.le_refl _) (Nat.zero_le _) (by simp)) rfl ?_)
      go_wp2
      go_meet
      case rel => exact ⟨w2.heap.size, 0, rfl, Nat.le_refl _, by omega, ⟨[], row_new _ _ _ _ rfl, (fun j t hj => absurd hj (by omega)), (fun j z _ h => absurd h (by simp))⟩, by (repeat' (first | with_reducible exact Fr.refl _ _ | with_reducible assumption | with_reducible apply Fr.drew | with_reducible apply Fr.drewN | with_reducible apply Fr.alloc | (with_reducible refine Fr.set ?_ (.inr (by first | exact Nat.le_refl _ | exact Nat.le_succ _ | (simp; done) | (simp; omega))) _)))⟩
    | some ad =>
      have Hsrc : Hid (∀ j u, (zs.map (Value.int .i64))[j]? = some u → (w2.alloc (.cells #[] 3)).cell? (ad.add j) = some u) := by
        intro j u hu
        have hpos : 0 < zs.length := by
          have h1 := (List.getElem?_eq_some_iff.1 hu).1
          rw [List.length_map] at h1
          omega
        obtain ⟨b', off', h1, h2⟩ := HA.out hpos
        injection h1 with h1
        rw [h1]
        rw [addr_off]
        have h3 := h2.of_block Hf2.out.size (Hf2.out.block _ h2.1 (by simp))
        exact (h3.of_block (w' := w2.alloc (.cells #[] 3)) (by simp) (Below.heap_alloc _ _ _ h3.1)).2 j u hu
      go_wp2_with (at_builtin; refine wpList_append_own _ rfl _ _ 42 rfl w2.heap.size 3 i0 _ 1 8 Try.underlying42 Hi.out Hz.out Hsz.out Hby.out rfl (by decide) _ 0 [] rfl (World.ownsRow_made w2 #[] 0 (Nat.le_refl _) (Nat.zero_le _) (by simp)) ad zs.length cap (zs.map (Value.int .i64)) rfl ?qc1 ?qc2 ?qc3 ?qc4 ?qc5 ?qc6 ?_)
      case qc1 => rw [List.length_map, Nat.mul_one]
      case qc2 => exact Hsrc.out
      case qc3 => intro u hu; obtain ⟨x, _, rfl⟩ := List.mem_map.1 hu; rfl
      case qc4 => unfold maxLen; omega
      case qc5 => omega
      case qc6 => simp
      intro v' w3 hown hgrow hnil
      have hv : ∃ g c, v' = .slice (some ⟨g, 0, none⟩) zs.length c ∧ zs.length ≤ c ∧ w2.heap.size ≤ g ∧ ∃ sp, Row w3 g 3 (zs.map (Value.int .i64) ++ sp) := by
        have ho := hown
        first | rw [Nat.zero_add, List.nil_append] at ho | rw [List.nil_append] at ho | skip
        rcases ho.2 with ⟨h1, _⟩ | ⟨g, c, cur, rfl, hb, hg, hn, hmx, hcs, ht⟩
        · first | exact (hnil h1).elim | exact absurd (hnil.1 h1).1 (by simp)
        · obtain ⟨_, sp, hr⟩ := own_row ho
          exact ⟨g, c, rfl, hn, hb, sp, hr⟩
      obtain ⟨g, c, rfl, hgc, hg2, sp, hrow⟩ := hv
      have Hrow := Lib.hid hrow
      have Hfr : Hid (Fr [] w2 w3) := ((Fr.refl [] w2).alloc _).grown hgrow (by intro k hk; simp [Value.ownBlock] at hk; exact .inr (by omega))
      clear hown hgrow hnil hrow
      go_wp2
      go_meet
      case rel =>
        refine ⟨g, c, rfl, hgc, by omega, ⟨_, Hrow.out, (fun j t hj => absurd hj (by omega)), fun j z _ h => ?_⟩, Hfr.out⟩
        rw [List.getElem?_append_left (by rw [List.length_map]; exact (List.getElem?_eq_some_iff.1 h).1), List.getElem?_map, h]
        rfl
  case rest =>
    obtain ⟨g, c, rfl, hgc, hgw, hTR, hfx⟩ := hcut
    have hst2 : DS w.heap.size [gr] wc a 0 0 (.slice none 0 0) [] [] := ⟨Hst1.out.fr hfx (by simp) (Off.nil _ _ _), rfl, (fun e he => absurd he (by simp [evs])), (fun t ht => absurd ht (by simp))⟩
    have HDS := Lib.hid hst2
    have HTR := Lib.hid hTR
    have Hr7c := Lib.hid (Hr7.out.fr hfx (by simp))
    have Hfc := Lib.hid (Hf2.out.trans hfx)
    obtain ⟨ts, hts⟩ : ∃ ts : List Int, ts = zs.map (fun z => z % 1099511627776) := ⟨_, rfl⟩
    have Hts := Lib.hid hts
    have htl : ts.length = zs.length := by rw [hts, List.length_map]
    have Htl := Lib.hid htl
    have hTR0 : TR wc g 0 ts zs := by
      obtain ⟨cs, h1, _, h3⟩ := hTR
      exact ⟨cs, h1, (fun j t hj => absurd hj (by omega)), h3⟩
    have HTR0 := Lib.hid hTR0
    clear hst2 hTR hfx hts htl hTR0 HTR Hr7 Hf2 Hst1 HA hsm Hn Hi Hz Hsz Hby hz2
    go_wp2
    go_loopg [10] zs.length (fun gk iv wx => ∃ (k : Nat) (v : Value) (es : List (Ev × Value)), iv = .int .i64 k ∧ k ≤ zs.length ∧ gk = zs.length - k ∧ DS w.heap.size [gr] wx a 0 0 v es (ts.take k) ∧ TR wx g k ts zs ∧ Row wx gr 44 [.int .i64 0, .int .i64 7, .string ⟨#[]⟩] ∧ Fr [] w wx)
    case atStart => exact ⟨0, _, [], rfl, Nat.zero_le _, rfl, HDS.out, HTR0.out, Hr7c.out, Hfc.out⟩
    case round =>
      obtain ⟨k, v, es, rfl, hk, rfl, hds, htr, hr7, hfr⟩ := hrel
      have Hds := Lib.hid hds
      have Htr := Lib.hid htr
      have Hr7 := Lib.hid hr7
      have Hfr := Lib.hid hfr
      have hgl : g < wr.heap.size := by obtain ⟨cs, h⟩ := htr.row; exact h.lt
      have hgrl := hr7.lt
      clear hds htr hr7 hfr HDS HTR0 Hr7c Hfc
      by_cases hlt : k < zs.length
      · obtain ⟨z, hz⟩ : ∃ z, zs[k]? = some z := ⟨_, List.getElem?_eq_getElem hlt⟩
        have c0 := Htr.out.cell2 k z (Nat.le_refl _) hz
        have c1 := Htr.out.free k
        have hmask := i64_and40 z
        obtain ⟨t, ht⟩ : ∃ t, z % 1099511627776 = t := ⟨_, rfl⟩
        have htk : ts[k]? = some t := by rw [Hts.out, List.getElem?_map, hz, ← ht]; rfl
        have htb : 0 ≤ t ∧ t ≤ 1099511627776 := by omega
        rw [ht] at hmask
        have Htk := Lib.hid htk
        have Hzk := Lib.hid hz
        obtain ⟨ht0, ht1⟩ := htb
        clear hz ht htk
        go_upto_region 13 with fail
        have hset : Fr [g] wr (wr.setCell ⟨g, k, none⟩ (.int .i64 t)) := Fr.set (Fr.refl _ _) (.inl (by simp)) _
        have hrg := Htr.out.row
        obtain ⟨csg, hrg⟩ := hrg
        have hgout := Hds.out.st.out hrg (by decide) (by decide)
        have hggr : g ≠ gr := hrg.ne Hr7.out (by decide)
        have hdsS : DS w.heap.size [gr] (wr.setCell ⟨g, k, none⟩ (.int .i64 t)) a 0 0 v es (ts.take k) := ⟨Hds.out.st.fr hset (fun k hk hin => hgout (by have e : k = g := (by simpa using hin); rw [← e]; exact hk)) (row_off hrg (by decide) hgw), Hds.out.times, Hds.out.row, Hds.out.fit⟩
        have Hds2 := Lib.hid hdsS
        have Htr2 := Lib.hid (Htr.out.set t Htk.out z Hzk.out)
        have Hr72 := Lib.hid (Hr7.out.fr hset (by simpa using fun e => hggr e.symm))
        have Hfr2 := Lib.hid (Hfr.out.set (p := ⟨g, k, none⟩) (.inr hgw) (.int .i64 t))
        have hszs : wr.heap.size ≤ (wr.setCell ⟨g, k, none⟩ (.int .i64 t)).heap.size := hset.size
        clear hset hrg hgout hdsS c0 c1 hmask Hds Htr Hr7 Hfr
        generalize wr.setCell ⟨g, k, none⟩ (.int .i64 t) = w4 at *
        have c0 := Htr2.out.cell k t (by omega) Htk.out
        go_wp2_with fail
        have hlen := Hds2.out.len
        rw [List.length_take, Htl.out] at hlen
        have hrv : RV w.heap.size [] w4 (.slice (some ⟨gr, 0, none⟩) 1 1) row7 := ⟨_, 1, rfl, by decide, fun _ => ⟨gr, 0, rfl, ⟨Hr72.out.lt, fun j u hu => by rw [Nat.zero_add, Hr72.out.cell]; exact hu⟩, by simp, .inr ⟨_, Hr72.out⟩⟩⟩
        have hadd := add_ok Hds2.out.st (by omega) (by omega) (fun k hk => by have e : k = gr := (by simpa using hk); rw [e]; exact Hr72.out.lt) Hfr2.out.size 0 k ⟨#[]⟩ 0 t row7 (.slice (some ⟨gr, 0, none⟩) 1 1) hrv (right0 t ht0 ht1) row7_right (by omega) (by omega)
        have Hadd := Lib.hid hadd
        clear hadd hrv hlen
        refine Hadd.out.mono ?_
        rintro e w5 ⟨rfl, v5, y5, hst5, hf5, _⟩
        have hts1 : ts.take (k + 1) = ts.take k ++ [t] := by
          have h := Htk.out
          have hjl : k < ts.length := (List.getElem?_eq_some_iff.1 h).1
          have hv : ts[k] = t := by rw [List.getElem?_eq_getElem hjl] at h; exact Option.some.inj h
          rw [List.take_succ_eq_append_getElem hjl, hv]
        have Hds5 : Hid (DS w.heap.size [gr] w5 a 0 0 v5 (es ++ [(⟨0, k, ⟨#[]⟩, 0, t, row7⟩, y5)]) (ts.take (k + 1))) := by
          show DS _ _ _ _ _ _ _ _ _
          rw [hts1]
          exact Hds2.out.snoc hst5 ⟨ht0, ht1⟩ rfl
        have hrg2 := Htr2.out.row
        obtain ⟨csg2, hrg2⟩ := hrg2
        have Htr5 := Lib.hid (Htr2.out.fr hf5 (Hds2.out.st.out hrg2 (by decide) (by decide)))
        have Hr75 := Lib.hid (Hr72.out.fr hf5 (Hds2.out.st.out Hr72.out (by decide) (by decide)))
        have Hfr5 := Lib.hid (frIn Hfr2.out hf5 (fun i hi => (Hds2.out.st.fp_ge i hi).1))
        clear hst5 hf5 hts1 hrg2 Hds2 Htr2 Hr72 Hfr2 Hadd c0
        go_wp2
        go_roundg (zs.length - (k + 1))
        case measure => omega
        case rel => exact ⟨k + 1, v5, _, by go_num, by omega, rfl, Hds5.out, Htr5.out, Hr75.out, Hfr5.out⟩
      · have hkk : k = zs.length := by omega
        subst hkk
        have htk0 : ts.take zs.length = ts := List.take_of_length_le (by rw [Htl.out]; exact Nat.le_refl _)
        have hds0 := Hds.out
        rw [htk0] at hds0
        have c1 := Hr7.out.cell 1
        have c1' : wr.cell? ⟨gr, 1, none⟩ = some (.int .i64 7) := c1
        have c2 := Hr7.out.frozen 1
        have hnl := hds0.len
        rw [Htl.out] at hnl
        have Hnl := Lib.hid hnl
        have Hds0 := Lib.hid hds0
        clear htk0 hds0 Hds c1 hnl hlt
        go_upto_region 16 with fail
        have hset : Fr [gr] wr (wr.setCell ⟨gr, 1, none⟩ (.int .i64 8)) := Fr.set (Fr.refl _ _) (.inl (by simp)) _
        have hgout := Hds0.out.st.out Hr7.out (by decide) (by decide)
        have hrg := Htr.out.row
        obtain ⟨csg, hrg⟩ := hrg
        have hggr : g ≠ gr := hrg.ne Hr7.out (by decide)
        have hds6 : DS w.heap.size [gr] (wr.setCell ⟨gr, 1, none⟩ (.int .i64 8)) a 0 0 v es ts := ⟨Hds0.out.st.fr hset (fun k hk hin => hgout (by have e : k = gr := (by simpa using hin); rw [← e]; exact hk)) (fun k hk => .inl hk), Hds0.out.times, Hds0.out.row, Hds0.out.fit⟩
        have Hds6 := Lib.hid hds6
        have Htr6 := Lib.hid (Htr.out.fr hset (by simpa using hggr))
        have Hfr6 := Lib.hid (Hfr.out.set (p := ⟨gr, 1, none⟩) (.inr (by show w.heap.size ≤ gr; omega)) (.int .i64 8))
        clear hset hgout hrg hds6 c1' c2 Hds0 Htr Hr7 Hfr
        generalize wr.setCell ⟨gr, 1, none⟩ (.int .i64 8) = w6 at *
        go_wp2_with fail
        have hsl := slice_any Hds6.out.st (by omega) (by omega) (by rw [Hnl.out]; omega) 0 1 Hfr6.out.size (List.range w6.heap.size) (fun k hk => List.mem_range.1 hk)
        rw [show plc 0 es.length 0 = 0 from by unfold plc; rw [if_pos (Int.le_refl _)]; rfl, show (1 : Int).toNat = 1 from rfl, List.drop_zero] at hsl
        refine hsl.mono ?_
        rintro e w7 ⟨v7, rfl, es7, hes7, hown7, hR7, hf7⟩
        have hfrm : ∃ A7 c7, v7 = .slice A7 es7.length c7 := by
          rcases hown7.2 with ⟨h1, h2⟩ | ⟨g, c, _, h1, _⟩
          · exact ⟨none, 0, by rw [h1, h2]⟩
          · exact ⟨_, c, h1⟩
        obtain ⟨A7, c7, rfl⟩ := hfrm
        have hcase : es7.length = 0 ∨ (es7.length = 1 ∧ ∃ g7 b off cc, A7 = some ⟨g7, 0, none⟩ ∧ w7.cell? ⟨g7, 5, none⟩ = some (.slice (some ⟨b, off, none⟩) 1 cc) ∧ w7.cell? ⟨b, off + 1, none⟩ = some (.int .i64 7) ∧ w7.frozen? ⟨b, off + 1, none⟩ = false ∧ w6.heap.size ≤ b) := by
          have hlen7 : es7.length = min 1 es.length := by have h9 := congrArg List.length hes7; rw [List.length_map, List.length_map, List.length_take] at h9; exact h9
          rcases Nat.eq_zero_or_pos es7.length with h0 | h0
          · exact .inl h0
          · right
            have h1 : es7.length = 1 := by omega
            obtain ⟨x, hx⟩ : ∃ x, es7 = [x] := by
              match es7, h1 with
              | [x], _ => exact ⟨x, rfl⟩
            subst hx
            have hxm : x.1 ∈ evs es := by
              have : x.1 ∈ (es.take 1).map (·.1) := by rw [← hes7]; simp
              obtain ⟨y, hy, hyx⟩ := List.mem_map.1 this
              rw [← hyx]
              exact List.mem_map_of_mem (List.mem_of_mem_take hy)
            have hxr := Hds6.out.row _ hxm
            obtain ⟨⟨A8, c8, hv8, _, hA8⟩, _⟩ := hR7 x (by simp)
            rw [hxr] at hv8 hA8
            obtain ⟨b, off, rfl, hca, hbX, hbr⟩ := hA8 (by decide)
            have hbge : w6.heap.size ≤ b := by
              rcases Nat.lt_or_ge b w6.heap.size with h | h
              · exact absurd (List.mem_range.2 h) hbX
              · exact h
            obtain ⟨g7, cc7, hA7⟩ := own_form hown7 (by simp)
            injection hA7 with hA7 _ _
            subst hA7
            refine ⟨rfl, g7, b, off, c8, rfl, ?_, hca.2 1 _ rfl, ?_, hbge⟩
            · have h5 := own_cell hown7 5 x.2 rfl
              rw [hv8] at h5
              exact h5
            · rcases hbr with hb | ⟨cs, hb⟩
              · have := Hfr6.out.size
                omega
              · exact hb.frozen _
        have Hcase := Lib.hid hcase
        have Hds7 := Lib.hid (Hds6.out.quiet hf7)
        have Htr7 := Lib.hid (Htr6.out.fr hf7 (by simp))
        have Hfr7 := Lib.hid (Hfr6.out.trans hf7)
        have Hf7 := Lib.hid hf7
        have hgl6 : g < w6.heap.size := by obtain ⟨cs, h⟩ := Htr6.out.row; exact h.lt
        clear hcase hsl hes7 hown7 hR7 hf7
        generalize es7.length = n7 at *
        go_upto_if 62 with fail
        go_cut [] (fun wx => (∃ Xs, DS w.heap.size Xs wx a 0 0 v es ts) ∧ TR wx g zs.length ts zs ∧ Fr [] w wx)
        case first =>
          rcases Hcase.out with h0 | ⟨h1, g7, b, off, cc, hA7, d5, d1, d2, hbge⟩
          · subst h0
            go_wp2
            go_meet
            case rel => exact ⟨⟨_, Hds7.out⟩, Htr7.out, Hfr7.out⟩
          · subst h1 hA7
            go_wp2
            go_meet
            case rel =>
              have hset : Fr [b] w7 (w7.setCell ⟨b, off + 1, none⟩ (.int .i64 9)) := Fr.set (Fr.refl _ _) (.inl (by simp)) _
              have hst6 : St w.heap.size [b, gr] w6 a 0 0 0 v es := ⟨Hds6.out.st.row, Hds6.out.st.ge, Hds6.out.st.own, fun p hp => ⟨(Hds6.out.st.rows p hp).1.only (fun k hk => by
                rcases List.mem_cons.1 hk with rfl | hk
                · exact .inr hbge
                · exact .inl hk), (Hds6.out.st.rows p hp).2⟩⟩
              have hst7 := (hst6.quiet Hf7.out).fr hset (fun k hk hin => by
                have e : k = b := (by simpa using hin)
                have := (hst6.fp_ge k hk).2
                omega) (fun k hk => .inl (by have e : k = b := (by simpa using hk); simp [e]))
              exact ⟨⟨_, hst7, Hds6.out.times, Hds6.out.row, Hds6.out.fit⟩, Htr7.out.fr hset (by simp; omega), Hfr7.out.set (p := ⟨b, off + 1, none⟩) (.inr (by have := Hfr6.out.size; show w.heap.size ≤ b; omega)) _⟩
        case rest =>
          obtain ⟨⟨Xs, hds8⟩, htr8, hfr8⟩ := hcut
          have Hds8 := Lib.hid hds8
          have Htr8 := Lib.hid htr8
          have Hfr8 := Lib.hid hfr8
          clear hds8 htr8 hfr8 Hds6 Htr6 Hfr6 Hds7 Htr7 Hfr7 Hf7 Hcase
          go_wp2_with fail
          refine (copy_any Hds8.out.st (by rw [Hnl.out]; omega) Hfr8.out.size [] (fun k hk => by cases hk)).mono ?_
          rintro e w9 ⟨a2, rfl, v2, es2, hes2, hst2, hf9, hfp2⟩
          have hds2 : DS w.heap.size [] w9 a2 0 0 v2 es2 ts := ⟨hst2, by rw [show evs es2 = evs es from hes2]; exact Hds8.out.times, by rw [show evs es2 = evs es from hes2]; exact Hds8.out.row, Hds8.out.fit⟩
          have Hdsc9 := Lib.hid hds2
          have Hds9 := Lib.hid (Hds8.out.quiet hf9)
          have Htr9 := Lib.hid (Htr8.out.fr hf9 (by simp))
          have Hfr9 := Lib.hid (Hfr8.out.trans hf9)
          have Hd2 : Hid (∀ i, i ∈ fpS a2 v2 → i ∉ fpS a v) := fun i hi hin => by
            have h1 := hfp2 i hi
            have h2 := (Hds8.out.st.fp_ge i hin).2
            omega
          clear hes2 hst2 hf9 hfp2 hds2 Hds8 Htr8 Hfr8
          go_wp2_with fail
          refine (copy_any Hds9.out.st (by rw [Hnl.out]; omega) Hfr9.out.size [] (fun k hk => by cases hk)).mono ?_
          rintro e w10 ⟨a3, rfl, v3, es3, hes3, hst3, hf10, hfp3⟩
          have hds3 : DS w.heap.size [] w10 a3 0 0 v3 es3 ts := ⟨hst3, by rw [show evs es3 = evs es from hes3]; exact Hds9.out.times, by rw [show evs es3 = evs es from hes3]; exact Hds9.out.row, Hds9.out.fit⟩
          have Hdsd := Lib.hid hds3
          have Hdsc := Lib.hid (Hdsc9.out.quiet hf10)
          have Hds := Lib.hid (Hds9.out.quiet hf10)
          have Htr := Lib.hid (Htr9.out.fr hf10 (by simp))
          have Hfr := Lib.hid (Hfr9.out.trans hf10)
          have Hd31 : Hid (∀ i, i ∈ fpS a3 v3 → i ∉ fpS a v) := fun i hi hin => by
            have h1 := hfp3 i hi
            have h2 := (Hds9.out.st.fp_ge i hin).2
            omega
          have Hd32 : Hid (∀ i, i ∈ fpS a3 v3 → i ∉ fpS a2 v2) := fun i hi hin => by
            have h1 := hfp3 i hi
            have h2 := (Hdsc9.out.st.fp_ge i hin).2
            omega
          clear hes3 hst3 hf10 hfp3 hds3 Hds9 Htr9 Hfr9 Hdsc9
          obtain ⟨M, hM⟩ : ∃ M : Int, (if (zs.length : Int) < pos then (zs.length : Int) else pos) = M := ⟨_, rfl⟩
          obtain ⟨m, hm⟩ : ∃ m : Nat, (if 0 < M then M else 0) = (m : Int) := ⟨(if 0 < M then M else 0).toNat, by split <;> omega⟩
          have hplc : plc 0 zs.length pos = m := by
            unfold plc
            split at hM <;> split at hm <;> split <;> (try split) <;> simp <;> omega
          have hmn : m ≤ zs.length := by split at hM <;> split at hm <;> omega
          have Hplc := Lib.hid hplc
          clear hplc
          have hLn := leadT_le time ts
          rw [Htl.out] at hLn
          obtain ⟨L, hL⟩ : ∃ L, L = leadT time ts := ⟨_, rfl⟩
          rw [← hL] at hLn
          have HL := Lib.hid hL
          clear hL
          have hw1 : IntKind.i64.wrap ((zs.length : Int) - 1) = (zs.length : Int) - 1 := by rw [IntKind.wrap_i64]; omega
          go_upto_block 2 with fail
          clear hM hm
          go_cut [15] (fun s15 wx => s15 = .int .i64 L ∧ w10 = wx)
          case first =>
            go_wp2
            go_loopg [15] L (fun gk iv wx => wx = w10 ∧ ∃ j : Nat, iv = .int .i64 j ∧ j ≤ L ∧ gk = L - j)
            case atStart => exact ⟨rfl, 0, rfl, Nat.zero_le _, rfl⟩
            case round =>
              obtain ⟨rfl, j, rfl, hj, rfl⟩ := hrel
              by_cases hjn : j < zs.length
              · obtain ⟨t, ht⟩ : ∃ t, ts[j]? = some t := ⟨_, List.getElem?_eq_getElem (by rw [Htl.out]; omega)⟩
                have ct := Htr.out.cell j t (by omega) ht
                have hmin : (if (zs.length : Int) - 1 < (j : Int) then (zs.length : Int) - 1 else (j : Int)) = (j : Int) := by rw [if_neg (by omega)]
                have hjn' : (j : Int) < (zs.length : Int) := by omega
                by_cases hjL : j < L
                · have htt : t < time := leadT_lt time ts j t ht (by rw [← HL.out]; exact hjL)
                  clear ht
                  go_wp2
                  go_roundg (L - (j + 1))
                  case measure => omega
                  case rel => exact ⟨rfl, j + 1, by go_num, by omega, rfl⟩
                · have hjL2 : j = L := by omega
                  subst hjL2
                  have htt : time ≤ t := leadT_at time ts t (by rw [← HL.out]; exact ht)
                  have htt' : decide (t < time) = false := decide_eq_false (by omega)
                  clear ht
                  go_wp2
                  go_meet
                  case rel => exact ⟨rfl, rfl⟩
              · have hjL2 : j = L := by omega
                subst hjL2
                have hjn' : ¬ (j : Int) < (zs.length : Int) := by omega
                go_wp2
                go_meet
                case rel => exact ⟨rfl, rfl⟩
          case rest =>
            obtain ⟨rfl, rfl⟩ := hcut
            have hl2 : es2.length = zs.length := by rw [Hdsc.out.len, Htl.out]
            have hl3 : es3.length = zs.length := by rw [Hdsd.out.len, Htl.out]
            have hdr := drop_any Hdsc.out.st Hdsc.out.fitS (by omega) (by omega) (by omega) pos Hfr.out.size
            rw [hl2, Hplc.out, Int.zero_add, hzT_evs, evs_take, List.map_take, Hdsc.out.times] at hdr
            have htr := fun W (hd : DS w.heap.size [] W a3 0 0 v3 es3 ts) (hf : Fr [] w W) => trim_any hd.st hd.fitS (by omega) (by omega) (by omega) time hf.size
            have hlead : lead time es3 = L := by rw [lead_times, Hdsd.out.times, HL.out]
            rw [hlead] at htr
            have hz3 : hz 0 (es3.take L) = hzT 0 (ts.take L) := by rw [hzT_evs, evs_take, List.map_take, Hdsd.out.times]
            rw [hz3] at htr
            have haft := fun (q : Nat) (hq : q ≤ zs.length) (W : World) (h : TR W g zs.length ts zs) => after_any g _ ts q c W h.choose_spec.1 (by rw [Htl.out]; exact hq) (fun j t hj ht => h.choose_spec.2.1 j t (by omega) ht) Hds.out.fit (by omega)
            have Hdr := Lib.hid hdr
            have Htrm := Lib.hid htr
            have Ham := Lib.hid (haft m hmn)
            have HaL := Lib.hid (haft L hLn)
            have Hl2 := Lib.hid hl2
            clear hdr htr hlead hz3 haft hl2 hl3
            generalize hzT 0 (ts.take m) = zc at *
            generalize hzT 0 (ts.take L) = zd at *
            go_wp2_with fail
            refine Hdr.out.mono ?_
            rintro e w11 ⟨rfl, v4, hst4, hf4, hv4⟩
            have hdc : DS w.heap.size [] w11 a2 m zc v4 (es2.drop m) (ts.drop m) := ⟨hst4, by rw [evs_drop, List.map_drop, Hdsc.out.times], (fun e he => Hdsc.out.row e (by rw [evs_drop] at he; exact List.mem_of_mem_drop he)), (fun t ht => Hdsc.out.fit t (List.mem_of_mem_drop ht))⟩
            have hdd : DS w.heap.size [] w11 a3 0 0 v3 es3 ts := ⟨Hdsd.out.st.beside Hdsc.out.st hf4 Hd32.out, Hdsd.out.times, Hdsd.out.row, Hdsd.out.fit⟩
            have hds : DS w.heap.size Xs w11 a 0 0 v es ts := ⟨Hds.out.st.beside Hdsc.out.st hf4 (fun k hk hin => Hd2.out k hin hk), Hds.out.times, Hds.out.row, Hds.out.fit⟩
            have hd34 : ∀ k, k ∈ fpS a2 v4 → k ∉ fpS a3 v3 := fun k hk hin => by
              rcases hv4 k hk with rfl | h
              · exact Hd32.out _ hin (by simp [fpS])
              · have := (Hdsd.out.st.fp_ge k hin).2
                omega
            have hrg := Htr.out.row
            obtain ⟨csg, hrg⟩ := hrg
            have Hdc := Lib.hid hdc
            have Hdd := Lib.hid hdd
            have Hds1 := Lib.hid hds
            have Hd34 := Lib.hid hd34
            have Htr1 := Lib.hid (Htr.out.fr hf4 (Hdsc.out.st.out hrg (by decide) (by decide)))
            have Hfr1 := Lib.hid (frIn Hfr.out hf4 (fun i hi => (Hdsc.out.st.fp_ge i hi).1))
            clear hst4 hf4 hv4 hdc hdd hds hd34 hrg Hdr Hdsc Hdsd Hds Htr Hfr Hd32 Hd2
            go_wp2_with fail
            refine (Htrm.out _ Hdd.out Hfr1.out).mono ?_
            rintro e w12 ⟨rfl, v5, hst5, hf5, hv5⟩
            rw [Int.zero_add] at hst5
            have hrg := Htr1.out.row
            obtain ⟨csg, hrg⟩ := hrg
            have hsc := Hdc.out.st.beside Hdd.out.st hf5 Hd34.out
            have hss := Hds1.out.st.beside Hdd.out.st hf5 (fun k hk hin => Hd31.out k hin hk)
            have Hsc := Lib.hid hsc
            have Hss := Lib.hid hss
            have Hsd := Lib.hid hst5
            have Htr2 := Lib.hid (Htr1.out.fr hf5 (Hdd.out.st.out hrg (by decide) (by decide)))
            have Hfr2 := Lib.hid (frIn Hfr1.out hf5 (fun i hi => (Hdd.out.st.fp_ge i hi).1))
            clear hst5 hf5 hv5 hsc hss hrg Htrm
            go_wp2_with (first
              | (go_at_call_of 13 (Value.pointer (some ⟨a2, 0, none⟩)); refine (first_any Hsc.out).mono ?_; rintro e w13 ⟨rfl, rfl⟩)
              | (go_at_call_of 13 (Value.pointer (some ⟨a3, 0, none⟩)); refine (first_any Hsd.out).mono ?_; rintro e w13 ⟨rfl, rfl⟩)
              | (go_at_call_of 13 (Value.pointer (some ⟨a, 0, none⟩)); refine (first_any Hss.out).mono ?_; rintro e w13 ⟨rfl, rfl⟩)
              | (go_at_call_of 14 (Value.pointer (some ⟨a, 0, none⟩)); refine (horizon_any Hss.out).mono ?_; rintro e w14 ⟨rfl, rfl⟩))
            have hl2 := Hl2.out
            have hesl : es.length = zs.length := Hnl.out
            have hall : ∀ (l : List (Ev × Value)), (∀ e, e ∈ evs l → 0 ≤ e.time) → l.filter (late 0) = l := fun l hl => by
              rw [List.filter_eq_self]
              intro p hp
              have := hl p.1 (List.mem_map_of_mem hp)
              simp only [late, decide_eq_true_eq]
              exact this
            have hfs : es.filter (late 0) = es := hall es (fun e he => (Hds1.out.fit e.time (by rw [← Hds1.out.times]; exact List.mem_map_of_mem he)).1)
            have hfc : (es2.drop m).filter (late 0) = es2.drop m := hall _ (fun e he => (Hdc.out.fit e.time (by rw [← Hdc.out.times]; exact List.mem_map_of_mem he)).1)
            have hfrom := from_any Hss.out (by omega) 0 Hfr2.out.size [] (fun k hk => by cases hk)
            rw [hfs] at hfrom
            have Hfc := Lib.hid hfc
            clear hall hfs hfc hl2
            refine hfrom.mono ?_
            rintro e w15 ⟨v6, rfl, es6, hes6, hown6, hR6, hf6⟩
            have hl6 : es6.length = zs.length := by have h9 := congrArg List.length hes6; rw [List.length_map, List.length_map] at h9; omega
            rw [hl6] at hown6
            have hfrm6 : ∃ A6 c6, v6 = .slice A6 zs.length c6 := by
              rcases hown6.2 with ⟨h1, h2⟩ | ⟨g, c, _, h1, _⟩
              · exact ⟨none, 0, by rw [h1, h2]⟩
              · exact ⟨_, c, h1⟩
            obtain ⟨A6, c6, rfl⟩ := hfrm6
            have Hrow6 : Hid (∀ p, p ∈ es6 → p.1.row = row7) := fun p hp => by
              refine Hds1.out.row p.1 ?_
              show p.1 ∈ es.map (·.1)
              rw [← hes6]
              exact List.mem_map_of_mem hp
            have Hown6 := Lib.hid hown6
            have HR6 := Lib.hid hR6
            have Hl6 := Lib.hid hl6
            have Hsc6 := Lib.hid (Hsc.out.quiet hf6)
            have Hsd6 := Lib.hid (Hsd.out.quiet hf6)
            have Htr6 := Lib.hid (Htr2.out.fr hf6 (by simp))
            have Hfr6 := Lib.hid (Hfr2.out.trans hf6)
            clear hes6 hown6 hR6 hf6 hl6 hfrom hesl Hsc Hss Hsd Htr2 Hfr2 Hds1 Hdd
            go_wp2
            go_loopg [17] zs.length (fun gk iv wx => ∃ j : Nat, iv = .int .i64 j ∧ j ≤ zs.length ∧ gk = zs.length - j ∧ Fr [] w15 wx)
            case atStart => exact ⟨0, rfl, Nat.zero_le _, rfl, Fr.refl _ _⟩
            case round =>
              obtain ⟨j, rfl, hj, rfl, hfx⟩ := hrel
              have Hfx := Lib.hid hfx
              have hzx := Hfr6.out.size
              have hzx2 := hfx.size
              clear hfx
              by_cases hjn : j < zs.length
              · obtain ⟨g6, c66, hv⟩ := own_form Hown6.out (by omega)
                injection hv with hv1 _ hv3
                subst hv1 hv3
                obtain ⟨x, hx⟩ : ∃ x, es6[j]? = some x := ⟨_, List.getElem?_eq_getElem (by rw [Hl6.out]; exact hjn)⟩
                have hrr := (HR6.out x (List.mem_of_getElem? hx)).1
                have hx7 := Hrow6.out x (List.mem_of_getElem? hx)
                have d5 := own_cell (own_fr Hown6.out Hfx.out (by simp)) _ _ (ecells_at es6 j x hx 5 x.2 rfl)
                rw [hx7] at hrr
                obtain ⟨A8, c8, hv8⟩ : ∃ A c, x.2 = .slice A row7.length c := by obtain ⟨A, c, h, _⟩ := hrr; exact ⟨A, c, h⟩
                rw [hv8] at d5 hrr
                have Hrr := Lib.hid hrr
                clear hx hx7 hv8 hrr
                go_wp2_with fail
                have hnew := row_new wr 44 #[.int .i64 0, .int .i64 7, .string ⟨#[]⟩] _ rfl
                have hfn : Fr [] wr (wr.alloc (.cells #[.int .i64 0, .int .i64 7, .string ⟨#[]⟩] 44)) := by (repeat' (first | with_reducible exact Fr.refl _ _ | with_reducible assumption | with_reducible apply Fr.drew | with_reducible apply Fr.drewN | with_reducible apply Fr.alloc | (with_reducible refine Fr.set ?_ (.inr (by first | exact Nat.le_refl _ | exact Nat.le_succ _ | (simp; done) | (simp; omega))) _)))
                have hrn : RV w.heap.size [] (wr.alloc (.cells #[.int .i64 0, .int .i64 7, .string ⟨#[]⟩] 44)) (.slice (some ⟨wr.heap.size, 0, none⟩) 1 1) row7 := ⟨_, 1, rfl, by decide, fun _ => ⟨wr.heap.size, 0, rfl, ⟨hnew.lt, fun j u hu => by rw [Nat.zero_add, hnew.cell]; exact hu⟩, by simp, .inr ⟨_, hnew⟩⟩⟩
                have hsm := same03 (Hrr.out.quiet (Hfx.out.trans hfn)) hrn
                refine hsm.mono ?_
                rintro e w16 ⟨rfl, hf16⟩
                have Hf16 := Lib.hid (Hfx.out.trans (hfn.trans hf16))
                clear hf16 hsm hrn hfn hnew d5
                go_wp2
                go_roundg (zs.length - (j + 1))
                case measure => omega
                case rel => exact ⟨j + 1, by go_num, by omega, rfl, Hf16.out⟩
              · have hjj : j = zs.length := by omega
                subst hjj
                have hm1 : (0 : Int) ≤ (m : Int) := by omega
                have hm2 : (m : Int) ≤ (c : Int) := by omega
                have hL1 : (0 : Int) ≤ (L : Int) := by omega
                have hL2 : (L : Int) ≤ (c : Int) := by omega
                have hwn : IntKind.i64.wrap ((zs.length : Int) - (m : Int)) = (zs.length : Int) - m := by rw [IntKind.wrap_i64]; omega
                have Hsc7 := Lib.hid (Hsc6.out.quiet Hfx.out)
                have Hsd7 := Lib.hid (Hsd6.out.quiet Hfx.out)
                have Htr7 := Lib.hid (Htr6.out.fr Hfx.out (by simp))
                have Hfr7 := Lib.hid (Hfr6.out.trans Hfx.out)
                have HscD := Lib.hid (Hsc7.out.quiet (Fr.refl [] wr).drew)
                have HsdD := Lib.hid (Hsd7.out.quiet (Fr.refl [] wr).drew)
                have htrD : TR wr.drew g zs.length ts zs := Htr7.out.fr (S := []) (Fr.refl [] wr).drew (by simp)
                have HamD := Lib.hid (Ham.out _ htrD)
                have HaLD := Lib.hid (HaL.out _ htrD)
                clear Hsc6 Hsd6 Htr6 Hfr6 Hfx htrD
                go_wp2_with fail
                go_region_held3 (fun _ => True) (trivial)
                  (first
                  | (go_at_call_of 14 (Value.pointer (some ⟨a2, 0, none⟩)); refine (horizon_any HscD.out).mono ?_; rintro e w16 ⟨rfl, rfl⟩)
                  | (go_at_call_of 14 (Value.pointer (some ⟨a3, 0, none⟩)); refine (horizon_any HsdD.out).mono ?_; rintro e w16 ⟨rfl, rfl⟩)
                  | (go_at_call_of 21 (Value.slice (some ⟨g, 0, none⟩) m c); refine HamD.out.mono ?_; rintro e w16 ⟨rfl, rfl⟩)
                  | (go_at_call_of 21 (Value.slice (some ⟨g, 0, none⟩) L c); refine HaLD.out.mono ?_; rintro e w16 ⟨rfl, rfl⟩)
                  | (go_at_call 18
                     refine (from_any HscD.out (by rw [List.length_drop, Hl2.out]; omega) 0 (Nat.le_trans Hfr7.out.size (by first | exact Nat.le_refl _ | (simp; done))) [] (fun k hk => by cases hk)).mono ?_
                     rintro e w17 ⟨v9, rfl, es9, hes9, hown9, _, hf9⟩
                     rw [Hfc.out] at hes9
                     have hl9 : (es9.length : Int) = (zs.length : Int) - (m : Int) := by
                       have h9 := congrArg List.length hes9
                       rw [List.length_map, List.length_map, List.length_drop, Hl2.out] at h9
                       omega
                     have hfrm9 : ∃ A9 c9, v9 = .slice A9 es9.length c9 := by
                       rcases hown9.2 with ⟨h1, h2⟩ | ⟨g, c, _, h1, _⟩
                       · exact ⟨none, 0, by rw [h1, h2]⟩
                       · exact ⟨_, c, h1⟩
                     obtain ⟨A9, c9, rfl⟩ := hfrm9
                     have hb9 : ((es9.length : Int) == (zs.length : Int) - (m : Int)) = true := beq_iff_eq.2 hl9
                     generalize es9.length = n9 at *
                     have Hf9 : Hid (Fr [] wr w17) := by first | exact hf9 | exact (Fr.refl [] wr).drew.trans hf9
                     clear hes9 hown9 hf9 hl9))
                all_goals
                  go_wp2
                  go_ret
                  exact ⟨rfl, Hfr7.out.trans Hf9.out⟩

end Go.Proofs.Ytkpmfbcepkpnpaa
