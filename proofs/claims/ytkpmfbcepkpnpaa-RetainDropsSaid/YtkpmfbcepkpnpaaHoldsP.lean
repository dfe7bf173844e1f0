/- RetainHolds: what holds between two operations. -/
import Derived.Test.YtkpmfbcepkpnpaaOps12
import Derived.Deep.AppendLies
namespace Go.Proofs.Ytkpmfbcepkpnpaa
open Go.RowKit Go.Shelf

theorem hzE_ge (h : Int) (l : List Ev) : h ≤ hzE h l := by
  induction l generalizing h with
  | nil => exact Int.le_refl _
  | cons x l ih =>
    have := ih (if h < x.time + 1 then x.time + 1 else h)
    simp only [hzE, List.foldl_cons] at this ⊢
    split at this <;> rename_i hc
    · rw [if_pos hc]; omega
    · rw [if_neg hc]; exact this
theorem hzE_mem (h : Int) (l : List Ev) (e : Ev) (he : e ∈ l) : e.time + 1 ≤ hzE h l := by
  induction l generalizing h with
  | nil => cases he
  | cons x l ih =>
    rcases List.mem_cons.1 he with rfl | he
    · have := hzE_ge (if h < e.time + 1 then e.time + 1 else h) l
      simp only [hzE, List.foldl_cons] at this ⊢
      split at this <;> rename_i hc
      · rw [if_pos hc]; exact this
      · rw [if_neg hc]; omega
    · have := ih (if h < x.time + 1 then x.time + 1 else h) he
      simp only [hzE, List.foldl_cons] at this ⊢
      exact this

/-- What holds between two operations. al: all events that were added. -/
structure HI (w wr : World) (a : Nat) (part : Int) (v : Value) (es : List (Ev × Value)) (av : Value) (al : List (Ev × Value)) (first hor : Int) : Prop where
  st : St w.heap.size [] wr a part first hor v es
  all : wr.ownsRow w.heap.size 30 6 av al.length (ecells al)
  rows : Rows w.heap.size [] wr al
  dis : ∀ k, k ∈ fpv av → k ∉ fpS a v
  f0 : 0 ≤ first
  f1 : first ≤ al.length
  ev : evs es = (evs al).drop first.toNat
  gone : ∀ (j : Nat) e, j < first.toNat → (evs al)[j]? = some e → e.time + 1 ≤ hor
  fit : ∀ e, e ∈ evs al → 0 ≤ e.time ∧ e.time ≤ 1099511627776
  fr : Fr [] w wr

section
variable {w wr w' : World} {a : Nat} {part : Int} {v : Value} {es : List (Ev × Value)} {av : Value} {al : List (Ev × Value)} {first hor : Int}
theorem HI.len (h : HI w wr a part v es av al first hor) : first + es.length = al.length := by
  have h1 := congrArg List.length h.ev
  rw [evs_len, List.length_drop, evs_len] at h1
  have := h.f0
  have := h.f1
  omega
theorem HI.quiet (h : HI w wr a part v es av al first hor) (hf : Fr [] wr w') : HI w w' a part v es av al first hor :=
  ⟨h.st.quiet hf, own_fr h.all hf (by simp), h.rows.quiet hf, h.dis, h.f0, h.f1, h.ev, h.gone, h.fit, h.fr.trans hf⟩
theorem HI.fitS (h : HI w wr a part v es av al first hor) : Fit es := fit_of (fun e he => h.fit e (by rw [h.ev] at he; exact List.mem_of_mem_drop he))
theorem HI.start (a : Nat) (part : Int) (h : St w.heap.size [] wr a part 0 0 (.slice none 0 0) []) (hf : Fr [] w wr) : HI w wr a part (.slice none 0 0) [] (.slice none 0 0) [] 0 0 :=
  ⟨h, World.ownsRow_nil _ _ _ _, (fun p hp => absurd hp (by simp)), (fun k hk => absurd hk (by simp [fpv, Value.ownBlock])), Int.le_refl _, by simp, rfl, (fun j e hj => absurd hj (by simp)), (fun e he => absurd he (by simp [evs])), hf⟩
/-- Behind a cut of k events. -/
theorem HI.cut (h : HI w wr a part v es av al first hor) (k : Nat) (hk : k ≤ es.length) {v1 : Value} (hst : St w.heap.size [] w' a part (first + k) (hz hor (es.take k)) v1 (es.drop k)) (hf : Fr (fpS a v) wr w') (hv : ∀ i, i ∈ fpS a v1 → i = a ∨ wr.heap.size ≤ i) :
    HI w w' a part v1 (es.drop k) av al (first + k) (hz hor (es.take k)) := by
  have hl := h.len
  have h0 := h.f0
  refine ⟨hst, own_fr h.all hf h.dis, h.rows.fr hf h.st.off2, fun i hi hin => ?_, by omega, by omega, ?_, fun j e hj he => ?_, h.fit, frIn h.fr hf (fun i hi => (h.st.fp_ge i hi).1)⟩
  · rcases hv i hin with rfl | hge
    · exact h.dis _ hi (by simp [fpS])
    · have := (own_fp h.all i hi).2
      omega
  · rw [evs_drop, h.ev, List.drop_drop]
    congr 1
    omega
  · rw [hz_evs]
    by_cases hjf : j < first.toNat
    · have h1 := h.gone j e hjf he
      have h2 := hzE_ge hor (evs (es.take k))
      omega
    · refine hzE_mem _ _ e ?_
      rw [evs_take]
      have h3 : (evs es)[j - first.toNat]? = some e := by
        rw [h.ev, List.getElem?_drop]
        rw [show first.toNat + (j - first.toNat) = j by omega]
        exact he
      have h4 : ((evs es).take k)[j - first.toNat]? = some e := by
        rw [List.getElem?_take_of_lt (by omega)]
        exact h3
      exact List.mem_of_getElem? h4
/-- Behind an Add that adds, and the append of the same event to the law's own list. -/
theorem HI.add (h : HI w wr a part v es av al first hor) {w1 w2 : World} {v1 y : Value} {e : Ev} {rv : Value} {g c : Nat} (hst : St w.heap.size [] w1 a part first hor v1 (es ++ [(e, y)])) (hf1 : Fr (fpS a v) wr w1) (hv : ∀ k, k ∈ fpS a v1 → k ∈ fpS a v ∨ wr.heap.size ≤ k)
    {o : Obj} (hown : w2.ownsRow w.heap.size 30 6 (.slice (some ⟨g, 0, none⟩) (al.length + 1) c) (al.length + 1) (ecells (al ++ [(e, rv)]))) (hg : (w1.alloc o).grownBy w2 av.ownBlock) (hat : av.ownBlock = some g ∨ g = w1.heap.size + 1)
    (hrv : RV w.heap.size [] w rv e.row) (hrl : e.row.length ≤ 100000) (ht0 : 0 ≤ e.time) (ht1 : e.time ≤ 1099511627776) :
    HI w w2 a part v1 (es ++ [(e, y)]) (.slice (some ⟨g, 0, none⟩) (al.length + 1) c) (al ++ [(e, rv)]) first hor := by
  have hl := h.len
  have h0 := h.f0
  have hal : Fr [] w1 (w1.alloc o) := (Fr.refl _ _).alloc _
  have hF2 := fr_of_grown hg
  have hown1 := own_fr (own_fr h.all hf1 h.dis) hal (by simp)
  have hst1 := hst.quiet hal
  have hdis : ∀ k, k ∈ fpS a v1 → k ∉ fpv av := fun k hk hin => by
    rcases hv k hk with h1 | h1
    · exact h.dis k hin h1
    · have := (own_fp h.all k hin).2
      omega
  have hoff : ∀ X, Off w.heap.size X (w1.alloc o) (fpv av) := fun X => own_off hown1 (by decide) (Nat.le_refl _)
  refine ⟨hst1.fr hF2 hdis (hoff _), by rw [List.length_append]; exact hown, fun p hp => ?_, fun k hk hin => ?_, h0, by rw [List.length_append]; simp; omega, ?_, fun j e' hj he => ?_, fun e' he => ?_, ?_⟩
  · rcases List.mem_append.1 hp with hp | hp
    · exact (((h.rows.fr hf1 h.st.off2).quiet hal).fr hF2 (hoff _)) p hp
    · have : p = (e, rv) := by simpa using hp
      subst this
      have hfw := frIn h.fr hf1 (fun i hi => (h.st.fp_ge i hi).1)
      exact ⟨((hrv.quiet hfw).quiet hal).fr hF2 (hoff _), hrl⟩
  · have hkg : k = g := by simpa [fpv, Value.ownBlock] using hk
    subst hkg
    rcases hat with hat | hat
    · exact hdis k hin (by simp [fpv, hat])
    · have := (hst.fp_ge k hin).2
      omega
  · have e1 : evs (al ++ [(e, rv)]) = evs al ++ [e] := by simp [evs]
    have e2 : evs (es ++ [(e, y)]) = evs es ++ [e] := by simp [evs]
    have h1 := h.f1
    rw [e1, e2, h.ev, List.drop_append_of_le_length (by rw [evs_len]; omega)]
  · have e1 : evs (al ++ [(e, rv)]) = evs al ++ [e] := by simp [evs]
    have h1 := h.f1
    rw [e1, List.getElem?_append_left (by rw [evs_len]; omega)] at he
    exact h.gone j e' hj he
  · have e1 : evs (al ++ [(e, rv)]) = evs al ++ [e] := by simp [evs]
    rw [e1] at he
    rcases List.mem_append.1 he with he | he
    · exact h.fit e' he
    · have : e' = e := by simpa using he
      subst this
      exact ⟨ht0, ht1⟩
  · exact frIn ((frIn h.fr hf1 (fun i hi => (h.st.fp_ge i hi).1)).trans hal) hF2 (fun i hi => (own_fp h.all i hi).1)
/-- From the horizon on nothing is lost. -/
theorem HI.late (h : HI w wr a part v es av al first hor) (t : Int) (ht : hor ≤ t) : (evs es).filter (lateE t) = (evs al).filter (lateE t) := by
  have h1 : evs al = (evs al).take first.toNat ++ evs es := by rw [h.ev, List.take_append_drop]
  rw [h1, List.filter_append]
  have h2 : ((evs al).take first.toNat).filter (lateE t) = [] := by
    rw [List.filter_eq_nil_iff]
    intro e he
    obtain ⟨j, hj⟩ := List.getElem?_of_mem he
    have hjl := (List.getElem?_eq_some_iff.1 hj).1
    rw [List.length_take] at hjl
    rw [List.getElem?_take_of_lt (by omega)] at hj
    have := h.gone j e (by omega) hj
    simp only [lateE, decide_eq_true_eq]
    omega
  rw [h2, List.nil_append]
end

end Go.Proofs.Ytkpmfbcepkpnpaa
