/- slices.IndexFunc at events; the store's Trim. -/
import Derived.Test.YtkpmfbcepkpnpaaCut2
namespace Go.Proofs.Ytkpmfbcepkpnpaa
open Go.RowKit Go.Shelf

/-- What is asked of a predicate on events. -/
def PredE (g : Nat) (lb : Array Value) (p : Ev × Value → Bool) (B : Nat) (w : World) : Prop := ∀ (W : World) (x : Ev) (A : Option Addr) (n c : Nat), Below B w W → Calls Try.prog g (#[.agg #[.int .i64 x.part, .int .i64 x.pos, .string x.src, .int .i64 x.schema, .int .i64 x.time, .slice A n c]] ++ lb) W fun e w' => e = .returned (.bool (p (x, .slice A n c))) ∧ Below B W w'

set_option maxHeartbeats 2000000 in
theorem idxE_any {B : Nat} {X : List Nat} (g : Nat) (lb : Array Value) (eg : ∀ args w, (callFunc g args).run Try.prog w = .ok (.enter g args) w) (p : Ev × Value → Bool) (A : Option Addr) (c : Nat) (es : List (Ev × Value)) (w : World) (hp : PredE g lb p w.heap.size w) (hl : es.length ≤ 1000000)
    (hA : 0 < es.length → ∃ b off, A = some ⟨b, off, none⟩ ∧ Came w b off (ecells es)) (hR : Rows B X w es) :
    Calls Try.prog 29 #[.slice A es.length c, .func (.func g) #[] lb] w fun e w' => e = .returned (.int .i64 (fidx p es)) ∧ Below w.heap.size w w' := by
  have HA := Lib.hid hA
  have Hp := Lib.hid hp
  have HR := Lib.hid hR
  clear hA hp hR
  go_enter Try.func29, Try.ntmps29
  go_wp2
  go_loopw [5, 8] (fun _ iv wr => ∃ k : Nat, iv = .int .i64 k ∧ k ≤ es.length ∧ Below w.heap.size w wr ∧ ∀ (j : Nat) y, j < k → es[j]? = some y → p y = false) (fun _ iv _ => es.length - (intOf iv).toNat)
  case atStart => exact ⟨0, rfl, by omega, Below.refl _ _, fun j y hj => absurd hj (Nat.not_lt_zero _)⟩
  case round =>
    obtain ⟨k, rfl, hk, hb, hn⟩ := hrel
    have Hb := Lib.hid hb
    have Hn := Lib.hid hn
    clear hb hn
    by_cases hlt : k < es.length
    · obtain ⟨b, off, rfl, hca⟩ := HA.out (by omega)
      obtain ⟨x, hx⟩ : ∃ x, es[k]? = some x := ⟨_, List.getElem?_eq_getElem hlt⟩
      have hr := (HR.out x (List.mem_of_getElem? hx)).1
      have hcw := hca.below Hb.out hca.1
      have cc := fun i u hi => hcw.2 _ _ (ecells_at es k x hx i u hi)
      obtain ⟨⟨q0, q1, s, sc, t, row⟩, y⟩ := x
      obtain ⟨yA, yc, hy⟩ : ∃ A c, y = .slice A row.length c := by obtain ⟨A, c, h, _⟩ := hr; exact ⟨A, c, h⟩
      subst hy
      have c0 := cc 0 _ rfl
      have c1 := cc 1 _ rfl
      have c2 := cc 2 _ rfl
      have c3 := cc 3 _ rfl
      have c4 := cc 4 _ rfl
      have c5 := cc 5 _ rfl
      simp only [Nat.add_zero] at c0
      rw [← Nat.add_assoc] at c1 c2 c3 c4 c5
      simp only at c0 c1 c2 c3 c4 c5
      have Hx := Lib.hid hx
      clear cc hca hcw hx hr
      have hcon := Hp.out wr ⟨q0, q1, s, sc, t, row⟩ yA row.length yc Hb.out
      simp only at hcon
      cases hq : p (⟨q0, q1, s, sc, t, row⟩, .slice yA row.length yc) with
      | true =>
        rw [hq] at hcon
        have Hcon := Lib.hid hcon
        have Hq := Lib.hid hq
        clear hcon hq
        go_wp2_with ((with_reducible refine Hcon.out.mono ?_); rintro e w' ⟨rfl, hb'⟩)
        go_ret
        refine ⟨?_, Hb.out.trans hb'⟩
        rw [fidx_hit p es k _ Hx.out Hq.out Hn.out]
        rfl
      | false =>
        rw [hq] at hcon
        have Hcon := Lib.hid hcon
        have Hq := Lib.hid hq
        clear hcon hq
        go_wp2_with ((with_reducible refine Hcon.out.mono ?_); rintro e w' ⟨rfl, hb'⟩; have Hb' := Lib.hid hb'; clear hb')
        go_roundw
        case rel =>
          refine ⟨k + 1, by go_num, by omega, Hb.out.trans Hb'.out, fun j y hj hy => ?_⟩
          by_cases e : j = k
          · subst e
            rw [Hx.out] at hy
            injection hy with hy
            subst hy
            exact Hq.out
          · exact Hn.out j y (by omega) hy
        case measure => simp [intOf]; omega
    · go_wp2
      go_ret
      refine ⟨?_, Hb.out⟩
      rw [fidx_miss p es (fun j y hy => Hn.out j y (by have := (List.getElem?_eq_some_iff.1 hy).1; omega) hy)]
      rfl

theorem eg30 : ∀ args w, (callFunc 30 args).run Try.prog w = .ok (.enter 30 args) w := enters_of Try.func30 (by kernel_rfl) rfl
/-- An event's time is at least t. -/
def late (t : Int) (x : Ev × Value) : Bool := decide (t ≤ x.1.time)
theorem late_pays (t : Int) (bt : Nat) (w : World) (hbt : bt < w.heap.size) (hc : w.cell? ⟨bt, 0, none⟩ = some (.int .i64 t)) : PredE 30 #[.pointer (some ⟨bt, 0, none⟩)] (late t) w.heap.size w := fun W x A n c hb => by
  have Hb := Lib.hid hb
  have hz := hb.size
  have hcW : W.cell? ⟨bt, 0, none⟩ = some (.int .i64 t) := (hb.cell (p := ⟨bt, 0, none⟩) hbt).trans hc
  obtain ⟨q0, q1, s, sc, tm, row⟩ := x
  have hcA : (W.alloc (.cells #[.int .i64 q0, .int .i64 q1, .string s, .int .i64 sc, .int .i64 tm, .slice A n c] 30)).cell? ⟨bt, 0, none⟩ = some (.int .i64 t) := (World.cell?_of_block (a := ⟨bt, 0, none⟩) (Below.heap_alloc _ _ _ (Nat.lt_of_lt_of_le hbt hz))).trans hcW
  clear hb hc hcW
  show Calls Try.prog 30 #[.agg #[.int .i64 q0, .int .i64 q1, .string s, .int .i64 sc, .int .i64 tm, .slice A n c], .pointer (some ⟨bt, 0, none⟩)] W (fun e w' => e = .returned (.bool (decide (t ≤ tm))) ∧ Below w.heap.size W w')
  go_enter Try.func30, Try.ntmps30
  go_wp2
  go_ret
  exact ⟨rfl, ((Fr.refl [] W).alloc _).toBelow (fun _ h => by cases h) hz⟩

/-- How many events stand ahead of the first late one. -/
def lead (t : Int) : List (Ev × Value) → Nat
  | [] => 0
  | x :: l => if t ≤ x.1.time then 0 else lead t l + 1
theorem lead_le (t : Int) (l : List (Ev × Value)) : lead t l ≤ l.length := by
  induction l with
  | nil => simp [lead]
  | cons x l ih => simp only [lead, List.length_cons]; split <;> omega
theorem lead_fidx (t : Int) (l : List (Ev × Value)) : (fidx (late t) l < 0 ∧ fidx (late t) l = -1 ∧ lead t l = l.length) ∨ (0 ≤ fidx (late t) l ∧ fidx (late t) l = lead t l) := by
  induction l with
  | nil => left; simp [fidx, lead]
  | cons x l ih =>
    simp only [fidx, lead, late, decide_eq_true_eq, List.length_cons]
    by_cases h : t ≤ x.1.time
    · right
      simp [h]
    · simp only [h, if_false]
      rcases ih with ⟨h1, h2, h3⟩ | ⟨h1, h2⟩
      · left
        rw [if_pos h1]
        omega
      · right
        rw [if_neg (by omega)]
        omega

section
variable {B : Nat} {X : List Nat} {w w' : World} {a : Nat} {part first hor : Int} {v : Value} {es : List (Ev × Value)}
theorem trim_any (h : St B X w a part first hor v es) (hfit : Fit es) (hf0 : 0 ≤ first) (hf1 : first ≤ 1099511627776) (hl : es.length ≤ 1000000) (t : Int) (hBw : B ≤ w.heap.size) :
    Calls Try.prog 12 #[.pointer (some ⟨a, 0, none⟩), .int .i64 t] w fun e w' => e = .returned (.int .i64 (lead t es)) ∧
      ∃ v1, St B X w' a part (first + lead t es) (hz hor (es.take (lead t es))) v1 (es.drop (lead t es)) ∧ Fr (fpS a v) w w' ∧ ∀ i, i ∈ fpS a v1 → i = a ∨ w.heap.size ≤ i := by
  have hle := lead_le t es
  obtain ⟨A, c, rfl⟩ := h.form
  have hst0 := h.quiet (((Fr.refl [] w).alloc (.cells #[.int .i64 t] 3)))
  have hbox : (w.alloc (.cells #[.int .i64 t] 3)).cell? ⟨w.heap.size, 0, none⟩ = some (.int .i64 t) := by simp
  have hpred := late_pays t w.heap.size (w.alloc (.cells #[.int .i64 t] 3)) (by simp) hbox
  have hA : 0 < es.length → ∃ b off, A = some ⟨b, off, none⟩ ∧ Came (w.alloc (.cells #[.int .i64 t] 3)) b off (ecells es) := fun h0 => by
    obtain ⟨g, c', hv⟩ := own_form hst0.own h0
    injection hv with hv1 hv2 hv3
    subst hv1
    refine ⟨g, 0, rfl, (own_fp hst0.own g (by simp [fpv, Value.ownBlock])).2, fun (i : Nat) (u : Value) hu => by rw [Nat.zero_add]; subst hv3; exact own_cell hst0.own i u hu⟩
  have Hidx := Lib.hid (idxE_any (B := B) (X := X) 30 #[.pointer (some ⟨w.heap.size, 0, none⟩)] eg30 (late t) A c es _ hpred hl hA hst0.rows)
  have hlf := lead_fidx t es
  obtain ⟨c0, c1, c2, c3⟩ := hst0.cells
  have H0 := Lib.hid hst0
  have Hfit := Lib.hid hfit
  have Hle := Lib.hid hle
  have H := Lib.hid h
  clear h hst0 hpred hA hfit hbox
  generalize lead t es = k at *
  generalize fidx (late t) es = f at *
  rcases hlf with ⟨h1, h2, h3⟩ | ⟨h1, h2⟩
  · subst h2 h3
    clear h1
    go_enter Try.func12, Try.ntmps12
    go_wp2_with fail
    refine Hidx.out.mono ?_
    rintro e w1 ⟨rfl, hb⟩
    have hf1' : Fr [] w w1 := ⟨hb.os, hb.tape, hb.output, by have := hb.size; simp at this; omega, fun i hi _ => (hb.block i (by simp; omega)).trans (Below.heap_alloc _ _ _ hi)⟩
    have hst1 := H.out.quiet hf1'
    obtain ⟨d0, d1, d2, d3⟩ := hst1.cells
    have Hst1 := Lib.hid hst1
    have HF1 := Lib.hid hf1'
    clear hst1 hf1' hb c0 c1 c2 c3
    go_wp2_with fail
    refine (cut_any Hst1.out Hfit.out hf0 hf1 hl _ Hle.out (Nat.le_trans hBw HF1.out.size)).mono ?_
    rintro e w2 ⟨rfl, v1, g1, g2, g3⟩
    have G1 := Lib.hid g1
    have G2 := Lib.hid g2
    have G3 := Lib.hid g3
    clear g1 g2 g3
    go_wp2
    go_ret
    refine ⟨rfl, v1, G1.out, (HF1.out.mono (by simp)).trans G2.out, fun i hi => ?_⟩
    have := HF1.out.size
    rcases G3.out i hi with h | h
    · exact .inl h
    · exact .inr (by omega)
  · subst h2
    go_enter Try.func12, Try.ntmps12
    go_wp2_with fail
    refine Hidx.out.mono ?_
    rintro e w1 ⟨rfl, hb⟩
    have hf1' : Fr [] w w1 := ⟨hb.os, hb.tape, hb.output, by have := hb.size; simp at this; omega, fun i hi _ => (hb.block i (by simp; omega)).trans (Below.heap_alloc _ _ _ hi)⟩
    have hst1 := H.out.quiet hf1'
    obtain ⟨d0, d1, d2, d3⟩ := hst1.cells
    have Hst1 := Lib.hid hst1
    have HF1 := Lib.hid hf1'
    clear hst1 hf1' hb c0 c1 c2 c3
    go_wp2_with fail
    refine (cut_any Hst1.out Hfit.out hf0 hf1 hl _ Hle.out (Nat.le_trans hBw HF1.out.size)).mono ?_
    rintro e w2 ⟨rfl, v1, g1, g2, g3⟩
    have G1 := Lib.hid g1
    have G2 := Lib.hid g2
    have G3 := Lib.hid g3
    clear g1 g2 g3
    go_wp2
    go_ret
    refine ⟨rfl, v1, G1.out, (HF1.out.mono (by simp)).trans G2.out, fun i hi => ?_⟩
    have := HF1.out.size
    rcases G3.out i hi with h | h
    · exact .inl h
    · exact .inr (by omega)
end

end Go.Proofs.Ytkpmfbcepkpnpaa
