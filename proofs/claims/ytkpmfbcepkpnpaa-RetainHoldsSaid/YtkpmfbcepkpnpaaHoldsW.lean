/- The walk of RetainHolds. -/
import Derived.Test.YtkpmfbcepkpnpaaHoldsP
import Derived.Deep.DeepCutAuto
import Derived.Deep.CutBlock
namespace Go.Proofs.Ytkpmfbcepkpnpaa
open Go.RowKit Go.Shelf

theorem news_row {w : World} {b : Nat} {t : TypeId} {cs : List Value} (h : Row w b t cs) : ∀ j u, cs[j]? = some u → w.cell? ((⟨b, 0, none⟩ : Addr).add j) = some u := by
  intro j u hu
  have e1 : (⟨b, 0, none⟩ : Addr).add j = ⟨b, j, none⟩ := by unfold Addr.add; split <;> simp_all
  rw [e1, h.cell]
  exact hu
theorem ES.quiet {B : Nat} {X : List Nat} {w w' : World} {v : Value} {es : List (Ev × Value)} (h : ES B X w v es) (hf : Fr [] w w') : ES B X w' v es := by
  obtain ⟨A, c, h1, h2, h3, h4⟩ := h
  refine ⟨A, c, h1, h2, fun h0 => ?_, h4.quiet hf⟩
  obtain ⟨b, off, h5, h6⟩ := h3 h0
  exact ⟨b, off, h5, h6.of_block hf.size (hf.block _ h6.1 (by simp))⟩
theorem ES.form {B : Nat} {X : List Nat} {w : World} {v : Value} {es : List (Ev × Value)} (h : ES B X w v es) : ∃ A c, v = .slice A es.length c := by
  obtain ⟨A, c, h1, _⟩ := h
  exact ⟨A, c, h1⟩
theorem addE_zero {part first : Int} {n : Nat} {e : Ev} (h : addE part first n e = 0) : rightE part e.part e.src e.schema e.time = true ∧ rightRow e.row = true ∧ e.pos = first + n ∧ n < 2000 := by
  unfold addE at h
  split at h
  · cases h
  · split at h
    · cases h
    · split at h
      · cases h
      · split at h
        · cases h
        · rename_i h1 h2 h3 h4
          exact ⟨by simpa using h1, by simpa using h2, by simpa using h3, by omega⟩
theorem rightE_time {part p : Int} {s : ByteArray} {sc t : Int} (h : rightE part p s sc t = true) : 0 ≤ t ∧ t ≤ 1099511627776 := by
  unfold rightE at h
  have := of_decide_eq_true h
  exact ⟨this.2.2.2.1, this.2.2.2.2⟩

set_option maxRecDepth 100000 in
set_option maxHeartbeats 8000000 in
theorem holds_main (part time : Int) (A : Option Addr) (c : Nat) (l : List (Oq × Value)) (w : World) (hl : l.length ≤ 9223372036854775807) (hin : ∀ p, p ∈ l → -9223372036854775808 ≤ p.1.do_ ∧ p.1.do_ ≤ 9223372036854775807) (h : Ops w.heap.size w A l) :
    Calls Try.prog 3 #[.int .i64 part, .slice A l.length c, .int .i64 time] w fun e w' => e = .returned (.bool true) ∧ Fr [] w w' := by
  have hsm := Lib.hid (small_any w)
  have H := Lib.hid h
  have Hin := Lib.hid hin
  clear h hin
  go_enter Try.func3, Try.ntmps3
  go_wp2_with fail
  refine hsm.out.mono ?_
  rintro e w0 ⟨rfl, hf0⟩
  have Hf0 := Lib.hid hf0
  clear hf0
  go_wp2_with fail
  refine (few_any A c l w.heap.size w0 hl (H.out.quiet Hf0.out)).mono ?_
  rintro e w1 ⟨bb, rfl, h60, hf1⟩
  have Hf1 := Lib.hid (Hf0.out.trans hf1)
  clear hf1
  cases bb
  · clear h60
    go_wp2
    go_ret
    exact ⟨rfl, Hf1.out⟩
  have hl60 : l.length ≤ 60 := h60 rfl
  clear h60
  go_wp2_with fail
  refine (new_any part w1 w.heap.size [] Hf1.out.size).mono ?_
  rintro e w2 ⟨a, rfl, ha, hst, hf⟩
  have HI0 := Lib.hid (HI.start a part hst (Hf1.out.trans hf))
  clear hst hf
  go_wp2
  go_loopg [9, 10, 11, 12] l.length (fun gk av fv hv iv wr => ∃ (k : Nat) (v : Value) (es : List (Ev × Value)) (avv : Value) (al : List (Ev × Value)) (first hor : Int), avv = av ∧ fv = .int .i64 first ∧ hv = .int .i64 hor ∧ iv = .int .i64 k ∧ k ≤ l.length ∧ al.length ≤ k ∧ gk = l.length - k ∧ HI w wr a part v es avv al first hor)
  case atStart => exact ⟨0, _, _, _, _, 0, 0, rfl, rfl, rfl, rfl, Nat.zero_le _, Nat.zero_le _, by simp, HI0.out⟩
  case round =>
    obtain ⟨k, v, es, av, al, first, hor, rfl, rfl, rfl, rfl, hk, hak, rfl, hI⟩ := hrel
    have hsp : ∃ Aa ca, av = .slice Aa al.length ca := by
      rcases hI.all.2 with ⟨h1, h2⟩ | ⟨g, c, _, h1, _⟩
      · exact ⟨none, 0, by rw [h1, h2]⟩
      · exact ⟨_, c, h1⟩
    obtain ⟨Aa, ca, rfl⟩ := hsp
    have HI1 := Lib.hid hI
    clear hI HI0 Hf1 Hf0 hsm
    by_cases hlt : k < l.length
    · have hops := H.out.quiet HI1.out.fr
      obtain ⟨b, off, rfl, hca⟩ := hops.1 (by omega)
      obtain ⟨x, hx⟩ : ∃ x, l[k]? = some x := ⟨_, List.getElem?_eq_getElem hlt⟩
      have hrv := H.out.2 x (List.mem_of_getElem? hx)
      have hdo := Hin.out x (List.mem_of_getElem? hx)
      have cc := fun i u hi => hca.2 _ _ (oqcs_at l k x hx i u hi)
      obtain ⟨⟨d, ⟨p, q, s, sc, t, row⟩, nx, n⟩, y⟩ := x
      obtain ⟨yA, yc, hy⟩ : ∃ A c, y = .slice A row.length c := by obtain ⟨A, c, h, _⟩ := hrv; exact ⟨A, c, h⟩
      subst hy
      have c0 := cc 0 _ rfl
      have c1 := cc 1 _ rfl
      have c2 := cc 2 _ rfl
      have c3 := cc 3 _ rfl
      have c4 := cc 4 _ rfl
      have c5 := cc 5 _ rfl
      have c6 := cc 6 _ rfl
      have c7 := cc 7 _ rfl
      have c8 := cc 8 _ rfl
      simp only [Nat.add_zero] at c0
      rw [← Nat.add_assoc] at c1 c2 c3 c4 c5 c6 c7 c8
      simp only at c0 c1 c2 c3 c4 c5 c6 c7 c8
      have Hrv := Lib.hid hrv
      simp only at hdo
      obtain ⟨hd0, hd1⟩ := hdo
      clear cc hca hx hops hrv
      go_upto_if 37 with fail
      go_cut [] (fun wx => ∃ q' : Int, Row wx wr.heap.size 32 [.int .i64 d, .int .i64 p, .int .i64 q', .string s, .int .i64 sc, .int .i64 t, .slice yA row.length yc, .bool nx, .int .i64 n] ∧ Fr [] wr wx)
      case first =>
        cases nx
        · go_wp2
          go_meet
          case rel => exact ⟨q, row_new _ _ _ _ rfl, by (repeat' (first | with_reducible exact Fr.refl _ _ | with_reducible assumption | with_reducible apply Fr.drew | with_reducible apply Fr.drewN | with_reducible apply Fr.alloc | (with_reducible refine Fr.set ?_ (.inr (by first | exact Nat.le_refl _ | exact Nat.le_succ _ | (simp; done) | (simp; omega))) _)))⟩
        · go_wp2
          go_meet
          case rel => exact ⟨_, row_new _ _ _ _ rfl, by (repeat' (first | with_reducible exact Fr.refl _ _ | with_reducible assumption | with_reducible apply Fr.drew | with_reducible apply Fr.drewN | with_reducible apply Fr.alloc | (with_reducible refine Fr.set ?_ (.inr (by first | exact Nat.le_refl _ | exact Nat.le_succ _ | (simp; done) | (simp; omega))) _)))⟩
      case rest =>
        obtain ⟨q', hrow, hfc⟩ := hcut
        have HI2 := Lib.hid (HI1.out.quiet hfc)
        have hob : w.heap.size ≤ wr.heap.size := HI1.out.fr.size
        have hobl := hrow.lt
        generalize wr.heap.size = ob at *
        have r0 : wc.cell? ⟨ob, 0, none⟩ = some (.int .i64 d) := by rw [hrow.cell]; rfl
        have Hrow := Lib.hid hrow
        clear hrow hfc HI1 c0 c1 c2 c3 c4 c5 c6 c7 c8
        go_upto_block 2 with (go_at_call 9; refine (pick_any d hd0 hd1 _).mono ?_; rintro e w' ⟨rfl, rfl⟩)
        have hr0 : 0 ≤ d % 5 := by omega
        have hr5 : d % 5 < 5 := by omega
        generalize d % 5 = r at *
        go_cut [9] (fun s9 wx => ∃ (v2 : Value) (es2 : List (Ev × Value)) (av2 : Value) (al2 : List (Ev × Value)) (first2 hor2 : Int), av2 = s9 ∧ HI w wx a part v2 es2 av2 al2 first2 hor2 ∧ first ≤ first2 ∧ hor ≤ hor2 ∧ al2.length ≤ k + 1)
        case first =>
          have hlen := HI2.out.len
          have hf0 := HI2.out.f0
          have hf1 := HI2.out.f1
          have r1 : wc.cell? ⟨ob, 1, none⟩ = some (.int .i64 p) := by rw [Hrow.out.cell]; rfl
          have r2 : wc.cell? ⟨ob, 2, none⟩ = some (.int .i64 q') := by rw [Hrow.out.cell]; rfl
          have r3 : wc.cell? ⟨ob, 3, none⟩ = some (.string s) := by rw [Hrow.out.cell]; rfl
          have r4 : wc.cell? ⟨ob, 4, none⟩ = some (.int .i64 sc) := by rw [Hrow.out.cell]; rfl
          have r5 : wc.cell? ⟨ob, 5, none⟩ = some (.int .i64 t) := by rw [Hrow.out.cell]; rfl
          have r6 : wc.cell? ⟨ob, 6, none⟩ = some (.slice yA row.length yc) := by rw [Hrow.out.cell]; rfl
          have r8 : wc.cell? ⟨ob, 8, none⟩ = some (.int .i64 n) := by rw [Hrow.out.cell]; rfl
          rcases (show (r = 0 ∨ r = 1) ∨ r = 2 ∨ r = 3 ∨ r = 4 by omega) with hr | rfl | rfl | rfl
          · have hal : al.length ≤ 60 := by omega
            by_cases hadd : addE part first es.length ⟨p, q', s, sc, t, row⟩ = 0
            · obtain ⟨hE, hRR, hq, hlt2⟩ := addE_zero hadd
              simp only at hE hRR hq
              have htb := rightE_time hE
              obtain ⟨ht0, ht1⟩ := htb
              have hrl : row.length ≤ 12 := by
                unfold rightRow at hRR
                simp only [Bool.and_eq_true, decide_eq_true_eq] at hRR
                exact hRR.1
              have hok := add_ok HI2.out.st hf0 (by omega) (fun k hk => by cases hk) HI2.out.fr.size p q' s sc t row (.slice yA row.length yc) (Hrv.out.quiet HI2.out.fr) hE hRR hq hlt2
              have Hok := Lib.hid hok
              have hqn : (q' != (al.length : Int)) = false := by
                rw [bne_eq_false_iff_eq]; omega
              have Hqn := Lib.hid hqn
              have Hrl := Lib.hid hrl
              have Hq := Lib.hid hq
              obtain ⟨i0, hi, hzz, hsz, hby⟩ := info_parts info_ev
              have Hi := Lib.hid hi
              have Hz := Lib.hid hzz
              have Hsz := Lib.hid hsz
              have Hby := Lib.hid hby
              clear hadd hE hRR hq hok hqn hrl hi hzz hsz hby
              rcases hr with rfl | rfl
              all_goals
                go_wp2_with fail
                refine Hok.out.mono ?_
                rintro e w3 ⟨rfl, v3, y3, hst3, hf3, hv3⟩
                have hout := HI2.out.st.out Hrow.out (by decide) (by decide)
                have hrow3 := Hrow.out.fr hf3 hout
                have s1 : w3.cell? ⟨ob, 1, none⟩ = some (.int .i64 p) := by rw [hrow3.cell]; rfl
                have s2 : w3.cell? ⟨ob, 2, none⟩ = some (.int .i64 q') := by rw [hrow3.cell]; rfl
                have s3 : w3.cell? ⟨ob, 3, none⟩ = some (.string s) := by rw [hrow3.cell]; rfl
                have s4 : w3.cell? ⟨ob, 4, none⟩ = some (.int .i64 sc) := by rw [hrow3.cell]; rfl
                have s5 : w3.cell? ⟨ob, 5, none⟩ = some (.int .i64 t) := by rw [hrow3.cell]; rfl
                have s6 : w3.cell? ⟨ob, 6, none⟩ = some (.slice yA row.length yc) := by rw [hrow3.cell]; rfl
                have Hst3 := Lib.hid hst3
                have Hf3 := Lib.hid hf3
                have Hv3 := Lib.hid hv3
                have hqn := Hqn.out
                have hall := own_fr HI2.out.all hf3 HI2.out.dis
                have Hall := Lib.hid hall
                have hz3 := hf3.size
                have hzw := HI2.out.fr.size
                clear hst3 hf3 hv3 hout hrow3 hall r0 r1 r2 r3 r4 r5 r6 r8
                go_wp2_with (at_builtin; refine wpList_append_lies _ rfl (.tmp 64) (.tmp 67) 27 rfl w.heap.size 30 i0 _ 6 72 Try.underlying27 Hi.out Hz.out Hsz.out Hby.out rfl (by decide) _ _ _ rfl (Hall.out.alloc _) ⟨w3.heap.size, 0, none⟩ 1 1 [.int .i64 p, .int .i64 q', .string s, .int .i64 sc, .int .i64 t, .slice yA row.length yc] rfl rfl ?c1 (ev_one _ _ _ _ _ _ _ _) (by decide) (by unfold maxLen; omega) (by omega) (by simp; omega) (w3.heap.size + 1) (by simp) ?_)
                case c1 => exact news_row (row_new w3 30 #[.int .i64 p, .int .i64 q', .string s, .int .i64 sc, .int .i64 t, .slice yA row.length yc] _ rfl)
                intro g5 c5 w5 hown5 hg5 hat5 hlt5
                have hfin := HI.add HI2.out Hst3.out Hf3.out Hv3.out (rv := .slice yA row.length yc) (by rw [ecells_snoc]; exact hown5) hg5 hat5 Hrv.out (by have := Hrl.out; simp only; omega) ht0 ht1
                have Hfin := Lib.hid hfin
                clear hfin hown5 hg5 hat5 hlt5 s1 s2 s3 s4 s5 s6 hqn
                go_wp2
                go_meet
                case rel => exact ⟨_, _, _, _, first, hor, rfl, Hfin.out, Int.le_refl _, Int.le_refl _, by rw [List.length_append]; simp; omega⟩
            · have hno := add_no HI2.out.st hf0 (by omega) (by omega) ⟨p, q', s, sc, t, row⟩ (.slice yA row.length yc) (Hrv.out.quiet HI2.out.fr) hadd
              have hne : (addE part first es.length ⟨p, q', s, sc, t, row⟩ == 0) = false := beq_eq_false_iff_ne.2 hadd
              generalize addE part first es.length ⟨p, q', s, sc, t, row⟩ = code at *
              have Hno := Lib.hid hno
              clear hno hadd
              rcases hr with rfl | rfl
              all_goals
                go_wp2_with fail
                refine Hno.out.mono ?_
                rintro e w3 ⟨rfl, hf3⟩
                have HI3 := Lib.hid (HI2.out.quiet hf3)
                clear hf3
                go_wp2
                go_meet
                case rel => exact ⟨v, es, _, al, first, hor, rfl, HI3.out, Int.le_refl _, Int.le_refl _, by omega⟩
          · have hdr := drop_any HI2.out.st HI2.out.fitS hf0 (by omega) (by omega) n HI2.out.fr.size
            have hple : plc first es.length n ≤ es.length := by unfold plc; split; simp; split <;> omega
            generalize plc first es.length n = m at *
            have Hdr := Lib.hid hdr
            clear hdr
            go_wp2_with fail
            refine Hdr.out.mono ?_
            rintro e w3 ⟨rfl, v3, hst3, hf3, hv3⟩
            have Hfin := Lib.hid (HI2.out.cut m hple hst3 hf3 hv3)
            have hge := hzE_ge hor (evs (es.take m))
            rw [← hz_evs] at hge
            clear hst3 hf3 hv3
            go_wp2
            go_meet
            case rel => exact ⟨v3, _, _, al, _, _, rfl, Hfin.out, by omega, hge, by omega⟩
          · have hdr := trim_any HI2.out.st HI2.out.fitS hf0 (by omega) (by omega) n HI2.out.fr.size
            have hple : lead n es ≤ es.length := lead_le n es
            generalize lead n es = m at *
            have Hdr := Lib.hid hdr
            clear hdr
            go_wp2_with fail
            refine Hdr.out.mono ?_
            rintro e w3 ⟨rfl, v3, hst3, hf3, hv3⟩
            have Hfin := Lib.hid (HI2.out.cut m hple hst3 hf3 hv3)
            have hge := hzE_ge hor (evs (es.take m))
            rw [← hz_evs] at hge
            clear hst3 hf3 hv3
            go_wp2
            go_meet
            case rel => exact ⟨v3, _, _, al, _, _, rfl, Hfin.out, by omega, hge, by omega⟩
          · go_wp2
            go_meet
            case rel => exact ⟨v, es, _, al, first, hor, rfl, HI2.out, Int.le_refl _, Int.le_refl _, by omega⟩
        case rest =>
          obtain ⟨v2, es2, av2, al2, first2, hor2, rfl, hI2, hfm, hhm, hak2⟩ := hcut
          have hsp2 : ∃ Aa ca, av2 = .slice Aa al2.length ca := by
            rcases hI2.all.2 with ⟨h1, h2⟩ | ⟨g, c, _, h1, _⟩
            · exact ⟨none, 0, by rw [h1, h2]⟩
            · exact ⟨_, c, h1⟩
          obtain ⟨Ab, cb, rfl⟩ := hsp2
          have hlen2 := hI2.len
          have hf02 := hI2.f0
          have hf12 := hI2.f1
          have HI3 := Lib.hid hI2
          have t1 : decide (first2 < first) = false := decide_eq_false (by omega)
          have t2 : decide (hor2 < hor) = false := decide_eq_false (by omega)
          have t3 : decide ((al2.length : Int) < first2) = false := decide_eq_false (by omega)
          have t4 : (first2 + (es2.length : Int) != (al2.length : Int)) = false := by rw [bne_eq_false_iff_eq]; omega
          have hl2 : es2.length ≤ 60 := by omega
          clear hI2 HI2 Hrow r0
          go_upto_region 30 with (first
            | (go_at_call 13; refine (first_any HI3.out.st).mono ?_; rintro e w3 ⟨rfl, rfl⟩)
            | (go_at_call 14; refine (horizon_any HI3.out.st).mono ?_; rintro e w3 ⟨rfl, rfl⟩)
            | (go_at_call 15; refine (next_any HI3.out.st hf02 (by omega) (by omega)).mono ?_; rintro e w4 ⟨rfl, hf4, _⟩; have HI4 := Lib.hid (HI3.out.quiet hf4); clear hf4 HI3))
          go_upto_region 32 with (first
            | (go_at_call 13; refine (first_any HI4.out.st).mono ?_; rintro e w5 ⟨rfl, rfl⟩)
            | (go_at_call 14; refine (horizon_any HI4.out.st).mono ?_; rintro e w5 ⟨rfl, rfl⟩))
          go_cut [115] (fun s wx => s = .bool false ∧ HI w wx a part v2 es2 (.slice Ab al2.length cb) al2 first2 hor2)
          case first =>
            obtain ⟨F, rfl⟩ : ∃ F : Nat, first2 = F := ⟨first2.toNat, by omega⟩
            have hsl : ∀ W, Fr [] w5 W → Calls Try.prog 17 #[.pointer (some ⟨a, 0, none⟩), .int .i64 0, .int .i64 100] W fun e w' => ∃ v', e = .returned v' ∧ ∃ es' : List (Ev × Value), es'.map (·.1) = es2.map (·.1) ∧ w'.ownsRow W.heap.size 30 6 v' es'.length (ecells es') ∧ Rows w.heap.size [] w' es' ∧ Fr [] W w' := fun W hW => by
              have h1 := slice_any (HI4.out.quiet hW).st hf02 (by omega) (by omega) 0 100 (HI4.out.quiet hW).fr.size [] (fun k hk => by cases hk)
              rw [show plc (F : Int) es2.length 0 = 0 from by unfold plc; rw [if_pos hf02]; rfl, show (100 : Int).toNat = 100 from rfl, List.drop_zero, List.take_of_length_le (by omega)] at h1
              exact h1
            have hev : es2.map (·.1) = (al2.drop F).map (·.1) := by
              have h1 := HI4.out.ev
              rw [Int.toNat_natCast] at h1
              unfold evs at h1
              rw [h1, List.map_drop]
            have Hsl := Lib.hid hsl
            have Hev := Lib.hid hev
            clear hsl hev
            rcases HI4.out.all.2 with ⟨h1, h2⟩ | ⟨g, cc, cur, h1, _, _, h3, h4, _⟩
            · injection h1 with h1 h2 h3
              subst h1 h3
              have hF0 : F = 0 := by omega
              have hal0 : al2 = [] := List.eq_nil_of_length_eq_zero h2
              subst hF0 hal0
              have hEa : ∀ W, Fr [] w5 W → ES w.heap.size [] W (.slice none 0 0) (([] : List (Ev × Value)).drop 0) := fun W _ => ⟨none, 0, rfl, by decide, fun h => absurd h (by simp), fun p hp => absurd hp (by simp)⟩
              have HEa := Lib.hid hEa
              clear hEa h2
              go_region_with (first
              | (go_at_call 17
                 refine (Hsl.out _ (by (repeat' (first | with_reducible exact Fr.refl _ _ | with_reducible assumption | with_reducible apply Fr.drew | with_reducible apply Fr.drewN | with_reducible apply Fr.alloc | (with_reducible refine Fr.set ?_ (.inr (by first | exact Nat.le_refl _ | exact Nat.le_succ _ | (simp; done) | (simp; omega))) _))))).mono ?_
                 rintro e w7 ⟨v5, rfl, es5, hes5, hown5, hR5, hf5⟩
                 have hF5 : Fr [] w5 w7 := by first | exact hf5 | exact (Fr.refl [] w5).drew.trans hf5
                 have HE5 := Lib.hid (ES.own hown5 rfl hR5 (by have h9 := congrArg List.length hes5; rw [List.length_map, List.length_map] at h9; omega))
                 have HF5 := Lib.hid hF5
                 have He5 := Lib.hid hes5
                 have hv5 := ES.form HE5.out
                 obtain ⟨A5, c5, rfl⟩ := hv5
                 clear hes5 hown5 hR5 hf5 hF5)
              | (go_at_call 16
                 refine (same12 (HE5.out.quiet (by (repeat' (first | with_reducible exact Fr.refl _ _ | with_reducible assumption | with_reducible apply Fr.drew | with_reducible apply Fr.drewN | with_reducible apply Fr.alloc | (with_reducible refine Fr.set ?_ (.inr (by first | exact Nat.le_refl _ | exact Nat.le_succ _ | (simp; done) | (simp; omega))) _))))) (HEa.out _ (by have h5 := HF5.out; (repeat' (first | with_reducible exact Fr.refl _ _ | with_reducible assumption | with_reducible apply Fr.drew | with_reducible apply Fr.drewN | with_reducible apply Fr.alloc | (with_reducible refine Fr.set ?_ (.inr (by first | exact Nat.le_refl _ | exact Nat.le_succ _ | (simp; done) | (simp; omega))) _))))) (He5.out.trans Hev.out)).mono ?_
                 rintro e w8 ⟨rfl, hf6⟩
                 have HF6 : Hid (Fr [] w5 w8) := by first | exact HF5.out.trans hf6 | exact HF5.out.drew.trans hf6
                 clear hf6))
              all_goals
                go_wp2
                go_meet
                case rel => exact ⟨rfl, HI4.out.quiet HF6.out⟩
            · injection h1 with h1 h2 h5
              subst h1 h5
              clear h2
              have hcame : Came w5 g 0 (ecells al2) := ⟨(own_fp HI4.out.all g (by simp [fpv, Value.ownBlock])).2, fun (i : Nat) (u : Value) hu => by rw [Nat.zero_add]; exact own_cell HI4.out.all i u hu⟩
              have hrows := HI4.out.rows
              have hFl : (F : Int) ≤ (al2.length : Int) := by omega
              by_cases hFc : F < cb
              · have hFc' : (F : Int) < (cb : Int) := by omega
                have hEa : ∀ W, Fr [] w5 W → ES w.heap.size [] W (.slice (some ⟨g, F * 6, none⟩) (al2.length - F) (cb - F)) (al2.drop F) := fun W hW => by
                  have hcW := hcame.of_block hW.size (hW.block _ hcame.1 (by simp))
                  refine ⟨some ⟨g, F * 6, none⟩, cb - F, by rw [List.length_drop], by rw [List.length_drop]; omega, fun _ => ⟨g, F * 6, rfl, hcW.1, fun i u hu => ?_⟩, fun p hp => (hrows.quiet hW) p (List.mem_of_mem_drop hp)⟩
                  rw [ecells_drop, List.getElem?_drop] at hu
                  have h4 := hcW.2 _ _ hu
                  rw [Nat.zero_add] at h4
                  exact h4
                have HEa := Lib.hid hEa
                clear hEa hcame hrows
                go_region_with (first
                | (go_at_call 17
                   refine (Hsl.out _ (by (repeat' (first | with_reducible exact Fr.refl _ _ | with_reducible assumption | with_reducible apply Fr.drew | with_reducible apply Fr.drewN | with_reducible apply Fr.alloc | (with_reducible refine Fr.set ?_ (.inr (by first | exact Nat.le_refl _ | exact Nat.le_succ _ | (simp; done) | (simp; omega))) _))))).mono ?_
                   rintro e w7 ⟨v5, rfl, es5, hes5, hown5, hR5, hf5⟩
                   have hF5 : Fr [] w5 w7 := by first | exact hf5 | exact (Fr.refl [] w5).drew.trans hf5
                   have HE5 := Lib.hid (ES.own hown5 rfl hR5 (by have h9 := congrArg List.length hes5; rw [List.length_map, List.length_map] at h9; omega))
                   have HF5 := Lib.hid hF5
                   have He5 := Lib.hid hes5
                   have hv5 := ES.form HE5.out
                   obtain ⟨A5, c5, rfl⟩ := hv5
                   clear hes5 hown5 hR5 hf5 hF5)
                | (go_at_call 16
                   refine (same12 (HE5.out.quiet (by (repeat' (first | with_reducible exact Fr.refl _ _ | with_reducible assumption | with_reducible apply Fr.drew | with_reducible apply Fr.drewN | with_reducible apply Fr.alloc | (with_reducible refine Fr.set ?_ (.inr (by first | exact Nat.le_refl _ | exact Nat.le_succ _ | (simp; done) | (simp; omega))) _))))) (HEa.out _ (by have h5 := HF5.out; (repeat' (first | with_reducible exact Fr.refl _ _ | with_reducible assumption | with_reducible apply Fr.drew | with_reducible apply Fr.drewN | with_reducible apply Fr.alloc | (with_reducible refine Fr.set ?_ (.inr (by first | exact Nat.le_refl _ | exact Nat.le_succ _ | (simp; done) | (simp; omega))) _))))) (He5.out.trans Hev.out)).mono ?_
                   rintro e w8 ⟨rfl, hf6⟩
                   have HF6 : Hid (Fr [] w5 w8) := by first | exact HF5.out.trans hf6 | exact HF5.out.drew.trans hf6
                   clear hf6))
                all_goals
                  go_wp2
                  go_meet
                  case rel => exact ⟨rfl, HI4.out.quiet HF6.out⟩
              · have hFcb : cb = F := by omega
                subst hFcb
                have hEa : ∀ W, Fr [] w5 W → ES w.heap.size [] W (.slice (some ⟨g, 0, none⟩) 0 0) (al2.drop cb) := fun W hW => by
                  rw [List.drop_eq_nil_of_le (by omega)]
                  exact ⟨_, 0, rfl, by decide, fun h => absurd h (by simp), fun p hp => absurd hp (by simp)⟩
                have HEa := Lib.hid hEa
                clear hEa hcame hrows
                go_region_with (first
                | (go_at_call 17
                   refine (Hsl.out _ (by (repeat' (first | with_reducible exact Fr.refl _ _ | with_reducible assumption | with_reducible apply Fr.drew | with_reducible apply Fr.drewN | with_reducible apply Fr.alloc | (with_reducible refine Fr.set ?_ (.inr (by first | exact Nat.le_refl _ | exact Nat.le_succ _ | (simp; done) | (simp; omega))) _))))).mono ?_
                   rintro e w7 ⟨v5, rfl, es5, hes5, hown5, hR5, hf5⟩
                   have hF5 : Fr [] w5 w7 := by first | exact hf5 | exact (Fr.refl [] w5).drew.trans hf5
                   have HE5 := Lib.hid (ES.own hown5 rfl hR5 (by have h9 := congrArg List.length hes5; rw [List.length_map, List.length_map] at h9; omega))
                   have HF5 := Lib.hid hF5
                   have He5 := Lib.hid hes5
                   have hv5 := ES.form HE5.out
                   obtain ⟨A5, c5, rfl⟩ := hv5
                   clear hes5 hown5 hR5 hf5 hF5)
                | (go_at_call 16
                   refine (same12 (HE5.out.quiet (by (repeat' (first | with_reducible exact Fr.refl _ _ | with_reducible assumption | with_reducible apply Fr.drew | with_reducible apply Fr.drewN | with_reducible apply Fr.alloc | (with_reducible refine Fr.set ?_ (.inr (by first | exact Nat.le_refl _ | exact Nat.le_succ _ | (simp; done) | (simp; omega))) _))))) (HEa.out _ (by have h5 := HF5.out; (repeat' (first | with_reducible exact Fr.refl _ _ | with_reducible assumption | with_reducible apply Fr.drew | with_reducible apply Fr.drewN | with_reducible apply Fr.alloc | (with_reducible refine Fr.set ?_ (.inr (by first | exact Nat.le_refl _ | exact Nat.le_succ _ | (simp; done) | (simp; omega))) _))))) (He5.out.trans Hev.out)).mono ?_
                   rintro e w8 ⟨rfl, hf6⟩
                   have HF6 : Hid (Fr [] w5 w8) := by first | exact HF5.out.trans hf6 | exact HF5.out.drew.trans hf6
                   clear hf6))
                all_goals
                  go_wp2
                  go_meet
                  case rel => exact ⟨rfl, HI4.out.quiet HF6.out⟩
          case rest =>
            obtain ⟨rfl, hI5⟩ := hcut
            have HI5 := Lib.hid hI5
            clear hI5 HI4 t1 t2 t3 t4
            go_wp2
            have hwcz := HI5.out.fr.size
            go_loopg [15, 16] al2.length (fun gj wv kv wx => ∃ (j : Nat) (ws : List (Ev × Value)) (wvv : Value), wvv = wv ∧ kv = .int .i64 j ∧ j ≤ al2.length ∧ gj = al2.length - j ∧ ws = (al2.take j).filter (late time) ∧ ws.length ≤ j ∧ wx.ownsRow wc.heap.size 30 6 wvv ws.length (ecells ws) ∧ Fr [] wc wx)
            case atStart => exact ⟨0, [], _, rfl, rfl, Nat.zero_le _, by simp, rfl, by simp, World.ownsRow_nil _ _ _ _, Fr.refl _ _⟩
            case round =>
              obtain ⟨j, ws, wv, rfl, rfl, hj, rfl, hws, hwl, hown, hfx⟩ := hrel
              have Hws := Lib.hid hws
              have Hown := Lib.hid hown
              have Hfx := Lib.hid hfx
              have hzx := hfx.size
              have HI6 := Lib.hid (HI5.out.quiet hfx)
              clear hws hown hfx
              by_cases hjl : j < al2.length
              · obtain ⟨g, cc, hv⟩ := own_form HI6.out.all (by omega)
                injection hv with hv1 hv2 hv3
                subst hv1 hv3
                clear hv2
                obtain ⟨x, hx⟩ : ∃ x, al2[j]? = some x := ⟨_, List.getElem?_eq_getElem hjl⟩
                have hrr := HI6.out.rows x (List.mem_of_getElem? hx)
                have cc := fun i u hi => own_cell HI6.out.all _ _ (ecells_at al2 j x hx i u hi)
                have hts : al2.take (j + 1) = al2.take j ++ [x] := by
                  have hv : al2[j] = x := by rw [List.getElem?_eq_getElem hjl] at hx; exact Option.some.inj hx
                  rw [List.take_succ_eq_append_getElem hjl, hv]
                have Hts := Lib.hid hts
                obtain ⟨⟨q0, q1, s1, sc1, tm, row1⟩, y1⟩ := x
                obtain ⟨zA, zc, hy⟩ : ∃ A c, y1 = .slice A row1.length c := by obtain ⟨A, c, h, _⟩ := hrr.1; exact ⟨A, c, h⟩
                subst hy
                have d0 := cc 0 _ rfl
                have d1 := cc 1 _ rfl
                have d2 := cc 2 _ rfl
                have d3 := cc 3 _ rfl
                have d4 := cc 4 _ rfl
                have d5 := cc 5 _ rfl
                simp only [Nat.add_zero] at d0
                simp only at d0 d1 d2 d3 d4 d5
                clear cc hts hx hrr
                by_cases hge : time ≤ tm
                · have hw1 : Hid ((al2.take (j + 1)).filter (late time) = ws ++ [((⟨q0, q1, s1, sc1, tm, row1⟩ : Ev), Value.slice zA row1.length zc)]) := by
                    show _ = _
                    rw [Hts.out, List.filter_append, Hws.out]
                    simp [late, hge]
                  go_wp2_with (at_builtin; refine wpList_app rfl (.tmp 129) (.tmp 134) 27 rfl wc.heap.size 30 _ 6 72 Try.underlying27 info_ev rfl (by decide) _ _ _ rfl (Hown.out.alloc _) _ 30 _ rfl (row_new _ _ _ _ rfl) (by rfl) (ev_one _ _ _ _ _ _ _ _) (by omega) (by omega) (by simp; omega) ?_; intro g2 c2 w9 hown2 hfr2)
                  have Hown2 : Hid (w9.ownsRow wc.heap.size 30 6 (.slice (some ⟨g2, 0, none⟩) (ws.length + 1) c2) (ws ++ [((⟨q0, q1, s1, sc1, tm, row1⟩ : Ev), Value.slice zA row1.length zc)]).length (ecells (ws ++ [((⟨q0, q1, s1, sc1, tm, row1⟩ : Ev), Value.slice zA row1.length zc)]))) := by
                    show World.ownsRow _ _ _ _ _ _ _
                    rw [ecells_snoc, List.length_append]
                    exact hown2
                  have Hfr2 := Lib.hid ((Hfx.out.alloc (.cells #[.int .i64 q0, .int .i64 q1, .string s1, .int .i64 sc1, .int .i64 tm, .slice zA row1.length zc] 30)).then hfr2 (fun i hi => .inr (own_fp Hown.out i hi).1))
                  clear hown2 hfr2 d0 d1 d2 d3 d4 d5
                  go_wp2
                  go_roundg (al2.length - (j + 1))
                  case measure => omega
                  case rel => exact ⟨j + 1, _, _, rfl, by go_num, by omega, rfl, hw1.out.symm, by rw [List.length_append]; simp; omega, Hown2.out, Hfr2.out⟩
                · have hw1 : Hid ((al2.take (j + 1)).filter (late time) = ws) := by
                    show _ = _
                    rw [Hts.out, List.filter_append, Hws.out]
                    simp [late, hge]
                  have hge' : decide (time ≤ tm) = false := decide_eq_false hge
                  go_wp2
                  go_roundg (al2.length - (j + 1))
                  case measure => omega
                  case rel => exact ⟨j + 1, ws, wv, rfl, by go_num, by omega, rfl, hw1.out.symm, by omega, Hown.out, Hfx.out⟩
              · have hjj : j = al2.length := by omega
                subst hjj
                have hwall : ws = al2.filter (late time) := by rw [Hws.out, List.take_of_length_le (Nat.le_refl _)]
                have Hwall := Lib.hid hwall
                clear hwall
                by_cases hge : hor2 ≤ time
                · have hev : (es2.filter (late time)).map (·.1) = (al2.filter (late time)).map (·.1) := by
                    rw [filter_evs, filter_evs]
                    exact HI5.out.late time hge
                  have Hev := Lib.hid hev
                  have hfr := from_any HI6.out.st (by omega) time HI6.out.fr.size [] (fun k hk => by cases hk)
                  have Hfr := Lib.hid hfr
                  have hwv : ∃ A c, wv = .slice A ws.length c := by
                    rcases Hown.out.2 with ⟨h1, h2⟩ | ⟨g, c, _, h1, _⟩
                    · exact ⟨none, 0, by rw [h1, h2]⟩
                    · exact ⟨_, c, h1⟩
                  obtain ⟨wA, wcp, rfl⟩ := hwv
                  clear hev hfr
                  go_wp2_with fail
                  refine Hfr.out.mono ?_
                  rintro e w9 ⟨v9, rfl, es9, hes9, hown9, hR9, hf9⟩
                  have h9l : es9.length ≤ 60 := by
                    have h9 := congrArg List.length hes9
                    rw [List.length_map, List.length_map] at h9
                    have := List.length_filter_le (late time) es2
                    omega
                  have hE9 := ES.own hown9 rfl hR9 (by omega)
                  have hEw := ES.own (B := w.heap.size) (X := []) (own_fr Hown.out hf9 (by simp)) rfl (fun p hp => (HI6.out.rows.quiet hf9) p (by rw [Hwall.out] at hp; exact (List.mem_filter.1 hp).1)) (by omega)
                  obtain ⟨A9, c9, hv9⟩ := hE9.form
                  subst hv9
                  have Hsame := Lib.hid (same12 hE9 hEw (by rw [hes9, Hev.out, Hwall.out]))
                  have HI9 := Lib.hid (HI6.out.quiet hf9)
                  clear hes9 hown9 hR9 h9l hE9 hEw hf9
                  go_wp2_with fail
                  refine Hsame.out.mono ?_
                  rintro e w10 ⟨rfl, hf10⟩
                  have HI10 := Lib.hid (HI9.out.quiet hf10)
                  clear hf10
                  go_wp2
                  go_roundg (l.length - (k + 1))
                  case measure => omega
                  case rel => exact ⟨k + 1, v2, es2, _, al2, first2, hor2, rfl, rfl, rfl, by go_num, by omega, hak2, rfl, HI10.out⟩
                · have hge' : decide (hor2 ≤ time) = false := decide_eq_false hge
                  go_wp2
                  go_roundg (l.length - (k + 1))
                  case measure => omega
                  case rel => exact ⟨k + 1, v2, es2, _, al2, first2, hor2, rfl, rfl, rfl, by go_num, by omega, hak2, rfl, HI6.out⟩
    · have hkk : k = l.length := by omega
      subst hkk
      go_wp2
      go_ret
      exact ⟨rfl, HI1.out.fr⟩

end Go.Proofs.Ytkpmfbcepkpnpaa
