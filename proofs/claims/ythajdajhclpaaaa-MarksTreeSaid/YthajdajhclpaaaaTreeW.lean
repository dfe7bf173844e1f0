/- The walk of MarksTree. -/
import Derived.Test.YthajdajhclpaaaaTreePl
import Derived.Deep.RegionWith
import Derived.Deep.RegionHeld3
import Derived.StillTailTactics
namespace Go.Proofs.Ythajdajhclpaaaa
open Go.RowKit

/-- Trackers of which no input is idle, each with blocks of its own. -/
structure Tks (w : World) (Ps : List (Nat × Nat)) (Ms : List (List Int)) : Prop where
  len : Ms.length = Ps.length
  trk : ∀ j, (h : j < Ps.length) → ∃ c, Trk w Ps[j].1 (some ⟨Ps[j].2, 0, none⟩) c (up (Ms[j]'(by omega))) (mn (Ms[j]'(by omega)))
  ne : ∀ l ∈ Ms, l ≠ []
  nd : ∀ i j, (hi : i < Ps.length) → (hj : j < Ps.length) → i ≠ j → Ps[i].1 ≠ Ps[j].1 ∧ Ps[i].2 ≠ Ps[j].2

theorem up_ne {l : List Int} (h : l ≠ []) : up l ≠ [] := by
  unfold up
  simpa using h

section
variable {w w' : World} {Ps : List (Nat × Nat)} {Ms : List (List Int)}
theorem Tks.rows (h : Tks w Ps Ms) (j : Nat) (hj : j < Ps.length) : (∃ cs, Row w Ps[j].1 47 cs) ∧ ∃ cs, Row w Ps[j].2 45 cs := by
  obtain ⟨c, ht⟩ := h.trk j hj
  obtain ⟨sp, hr⟩ := ht.frow (up_ne (h.ne _ (List.getElem_mem _)))
  exact ⟨⟨_, ht.row⟩, ⟨_, hr⟩⟩
theorem Tks.lt (h : Tks w Ps Ms) (j : Nat) (hj : j < Ps.length) : Ps[j].1 < w.heap.size ∧ Ps[j].2 < w.heap.size := by
  obtain ⟨⟨_, h1⟩, ⟨_, h2⟩⟩ := h.rows j hj
  exact ⟨h1.lt, h2.lt⟩
theorem Tks.fr (h : Tks w Ps Ms) {S : List Nat} (hf : Fr S w w') (hS : ∀ j, (hj : j < Ps.length) → Ps[j].1 ∉ S ∧ Ps[j].2 ∉ S) : Tks w' Ps Ms :=
  ⟨h.len, fun j hj => by
    obtain ⟨c, ht⟩ := h.trk j hj
    refine ⟨c, ht.fr hf (fun k hk => ?_)⟩
    simp [fpA] at hk
    rcases hk with rfl | rfl
    · exact (hS j hj).1
    · exact (hS j hj).2, h.ne, h.nd⟩
theorem Tks.quiet (h : Tks w Ps Ms) (hf : Fr [] w w') : Tks w' Ps Ms := h.fr hf (fun _ _ => ⟨by simp, by simp⟩)
/-- A block of another type is none of the trackers'. -/
theorem Tks.other (h : Tks w Ps Ms) {g : Nat} {t : TypeId} {cs : List Value} (hg : Row w g t cs) (h1 : t ≠ 47) (h2 : t ≠ 45) (j : Nat) (hj : j < Ps.length) : g ∉ fpA Ps[j].1 (some (⟨Ps[j].2, 0, none⟩ : Addr)) := by
  obtain ⟨⟨_, r1⟩, ⟨_, r2⟩⟩ := h.rows j hj
  simp [fpA]
  exact ⟨hg.ne r1 h1, hg.ne r2 h2⟩
theorem Tks.add (h : Tks w Ps Ms) {a g c : Nat} {l : List Int} (hl : l ≠ []) (ht : Trk w' a (some ⟨g, 0, none⟩) c (up l) (mn l)) (hf : Fr [] w w') (ha : w.heap.size ≤ a) (hg : w.heap.size ≤ g) : Tks w' (Ps ++ [(a, g)]) (Ms ++ [l]) := by
  have h' := h.quiet hf
  have hlen := h.len
  refine ⟨by simp [hlen], fun j hj => ?_, fun x hx => ?_, fun i j hi hj hij => ?_⟩
  · by_cases e : j < Ps.length
    · obtain ⟨c', ht'⟩ := h'.trk j e
      refine ⟨c', ?_⟩
      simp only [List.getElem_append_left e, List.getElem_append_left (show j < Ms.length by omega)]
      exact ht'
    · have e2 : j = Ps.length := by simp at hj; omega
      subst e2
      refine ⟨c, ?_⟩
      simpa [← hlen] using ht
  · rcases List.mem_append.1 hx with hx | hx
    · exact h.ne x hx
    · simp at hx; subst hx; exact hl
  · simp only [List.length_append, List.length_singleton] at hi hj
    by_cases ei : i < Ps.length
    · by_cases ej : j < Ps.length
      · simp only [List.getElem_append_left ei, List.getElem_append_left ej]
        exact h.nd i j ei ej hij
      · have e2 : j = Ps.length := by omega
        subst e2
        have := h.lt i ei
        simp only [List.getElem_append_left ei]
        simp
        omega
    · have e1 : i = Ps.length := by omega
      subst e1
      have ej : j < Ps.length := by omega
      have := h.lt j ej
      simp only [List.getElem_append_left ej]
      simp
      omega
theorem Tks.upd (h : Tks w Ps Ms) (k : Nat) (hk : k < Ps.length) {c : Nat} {l : List Int} (hl : l ≠ []) (ht : Trk w' Ps[k].1 (some ⟨Ps[k].2, 0, none⟩) c (up l) (mn l)) (hf : Fr (fpA Ps[k].1 (some (⟨Ps[k].2, 0, none⟩ : Addr))) w w') : Tks w' Ps (Ms.set k l) := by
  have hlen := h.len
  refine ⟨by simp [hlen], fun j hj => ?_, fun x hx => ?_, h.nd⟩
  · by_cases e : j = k
    · subst e
      refine ⟨c, ?_⟩
      simpa using ht
    · obtain ⟨c', ht'⟩ := h.trk j hj
      refine ⟨c', ?_⟩
      simp only [List.getElem_set_ne (show k ≠ j by omega)]
      have hd := h.nd j k hj hk e
      obtain ⟨⟨_, r1⟩, ⟨_, r2⟩⟩ := h.rows j hj
      obtain ⟨⟨_, s1⟩, ⟨_, s2⟩⟩ := h.rows k hk
      refine ht'.fr hf (fun q hq => ?_)
      simp [fpA] at hq ⊢
      rcases hq with rfl | rfl
      · exact ⟨hd.1, r1.ne s2 (by decide)⟩
      · exact ⟨r2.ne s1 (by decide), hd.2⟩
  · rcases List.mem_or_eq_of_mem_set hx with hx | rfl
    · exact h.ne x hx
    · exact hl
end

theorem Tks.at_ {w : World} {Ps : List (Nat × Nat)} {Ms : List (List Int)} (h : Tks w Ps Ms) {j a g : Nat} {l : List Int} (hp : Ps[j]? = some (a, g)) (hm : Ms[j]? = some l) : ∃ c, Trk w a (some ⟨g, 0, none⟩) c (up l) (mn l) := by
  obtain ⟨h1, e1⟩ := List.getElem?_eq_some_iff.1 hp
  obtain ⟨h2, e2⟩ := List.getElem?_eq_some_iff.1 hm
  obtain ⟨c, ht⟩ := h.trk j h1
  rw [e1, e2] at ht
  exact ⟨c, ht⟩
theorem Tks.upd_ {w w' : World} {Ps : List (Nat × Nat)} {Ms : List (List Int)} (h : Tks w Ps Ms) {k a g c : Nat} {l : List Int} (hp : Ps[k]? = some (a, g)) (hl : l ≠ []) (ht : Trk w' a (some ⟨g, 0, none⟩) c (up l) (mn l))
    (hf : Fr (fpA a (some (⟨g, 0, none⟩ : Addr))) w w') : Tks w' Ps (Ms.set k l) := by
  obtain ⟨h1, e1⟩ := List.getElem?_eq_some_iff.1 hp
  refine h.upd k h1 (c := c) hl ?_ ?_
  · rw [e1]; exact ht
  · rw [e1]; exact hf
theorem Tks.other_ {w : World} {Ps : List (Nat × Nat)} {Ms : List (List Int)} (h : Tks w Ps Ms) {g' : Nat} {t : TypeId} {cs : List Value} (hg : Row w g' t cs) (h1 : t ≠ 47) (h2 : t ≠ 45) {j a g : Nat} (hp : Ps[j]? = some (a, g)) : g' ∉ fpA a (some (⟨g, 0, none⟩ : Addr)) := by
  obtain ⟨h3, e⟩ := List.getElem?_eq_some_iff.1 hp
  have := h.other hg h1 h2 j h3
  rw [e] at this
  exact this
theorem up_rep (n : Nat) : up (List.replicate n (-1)) = List.replicate n (-1, false) := by simp [up]
theorem mn_rep (n : Nat) (h : 0 < n) : mn (List.replicate n (-1)) = -1 := by
  have hne : List.replicate n (-1 : Int) ≠ [] := by intro e; have := congrArg List.length e; simp at this; omega
  have := mn_mem hne
  simp at this
  exact this.2
theorem info_ptr : (Try.prog.info? 26).map (fun i => (i.zero, i.size, i.bytes)) = some (some (.pointer none), 1, 8) := by kernel_rfl

/-- The leaves as they begin. -/
def begin_ (ns : List Nat) : List (List Int) := ns.map fun n => List.replicate n (-1)
def ptrs (Ps : List (Nat × Nat)) : List Value := Ps.map fun p => .pointer (some ⟨p.1, 0, none⟩)
theorem offs_begin (ns : List Nat) (k n : Nat) (h : ns[k]? = some n) : offs (begin_ ns) (k + 1) = offs (begin_ ns) k + n := by
  unfold offs begin_
  induction ns generalizing k with
  | nil => simp at h
  | cons x ns ih =>
    cases k with
    | zero => simp at h; subst h; simp
    | succ k =>
      have := ih k (by simpa using h)
      simp at this ⊢
      omega
theorem begin_take (ns : List Nat) (k n : Nat) (h : ns[k]? = some n) : begin_ (ns.take (k + 1)) = begin_ (ns.take k) ++ [List.replicate n (-1)] := by
  have hk : k < ns.length := (List.getElem?_eq_some_iff.1 h).1
  have hv : ns[k] = n := (List.getElem?_eq_some_iff.1 h).2
  unfold begin_
  rw [List.take_succ_eq_append_getElem hk, hv]
  simp
theorem flatten_ne {L : List (List Int)} (hL : L ≠ []) (hne : ∀ l ∈ L, l ≠ []) : L.flatten ≠ [] := by
  cases L with
  | nil => exact absurd rfl hL
  | cons x L =>
    have := hne x (by simp)
    cases x with
    | nil => exact absurd rfl this
    | cons y r => simp
theorem begin_leaves (ns : List Nat) (h0 : ns ≠ []) (h1 : ∀ n ∈ ns, 0 < n) : Leaves (begin_ ns) := by
  refine ⟨by simpa [begin_] using h0, fun l hl => ?_, fun l hl x hx => ?_⟩
  · simp only [begin_, List.mem_map] at hl
    obtain ⟨n, hn, rfl⟩ := hl
    have := h1 n hn
    intro e
    have := congrArg List.length e
    rw [List.length_replicate, List.length_nil] at this
    omega
  · simp only [begin_, List.mem_map] at hl
    obtain ⟨n, hn, rfl⟩ := hl
    simp at hx
    omega
theorem begin_flat (ns : List Nat) : (begin_ ns).flatten = List.replicate (begin_ ns).flatten.length (-1) := by
  rw [List.eq_replicate_iff]
  refine ⟨rfl, fun x hx => ?_⟩
  obtain ⟨l, hl, hxl⟩ := List.mem_flatten.1 hx
  simp only [begin_, List.mem_map] at hl
  obtain ⟨n, hn, rfl⟩ := hl
  simp at hxl
  exact hxl.2
theorem begin_mn (ns : List Nat) (h1 : ∀ n ∈ ns, 0 < n) : (begin_ ns).map mn = List.replicate ns.length (-1) := by
  rw [List.eq_replicate_iff]
  refine ⟨by simp [begin_], fun x hx => ?_⟩
  simp only [begin_, List.map_map, List.mem_map] at hx
  obtain ⟨n, hn, rfl⟩ := hx
  exact mn_rep n (h1 n hn)
/-- The law's trackers: the leaves, the one of all inputs, the one of the leaves' common marks. -/
def TS (w : World) (Ps : List (Nat × Nat)) (L : List (List Int)) : Prop := Tks w Ps (L ++ [L.flatten] ++ [L.map mn])
def firsts (L : List (List Int)) (k : Nat) : List Value := (List.range k).map fun j => .int .i64 (offs L j)

/-- What holds between two notes. -/
structure TI (wr w : World) (K : Nat) (Ps3 : List (Nat × Nat)) (L0 L : List (List Int)) (gl gf : Nat) (Ps : List (Nat × Nat)) : Prop where
  ts : TS wr Ps3 L
  lv : Leaves L
  len : L.length = K
  off : ∀ j, offs L j = offs L0 j
  fr : Fr [] w wr
  rl : ∃ sp, Row wr gl 26 (ptrs Ps ++ sp)
  rf : ∃ sp, Row wr gf 3 (firsts L0 K ++ sp)
  pn : ∀ p ∈ Ps3, w.heap.size ≤ p.1 ∧ w.heap.size ≤ p.2

set_option maxRecDepth 100000 in
set_option maxHeartbeats 4000000 in
theorem tree_main (bs os caps : Nat) (ss : List Int) (Aa : Option Addr) (cap : Nat) (l : List (Int × Int × Int)) (w : World) (hs0 : 1 ≤ ss.length) (hs1 : ss.length ≤ 8) (hl : l.length ≤ 100)
    (hcs : Came w bs os (ss.map (Value.int .i64))) (hc : 0 < l.length → ∃ b off, Aa = some ⟨b, off, none⟩ ∧ Came w b off (opCells l)) :
    Calls Try.prog 3 #[.slice (some ⟨bs, os, none⟩) ss.length caps, .slice Aa l.length cap] w fun e w' => e = .returned (.bool true) ∧ Fr [] w w' := by
  have hsm := Lib.hid (small_any w)
  have Hc := Lib.hid hc
  have Hcs := Lib.hid hcs
  clear hc hcs
  have hd1 : decide ((ss.length : Int) < 1) = false := by simp; omega
  have hd2 : decide ((8 : Int) < (ss.length : Int)) = false := by simp; omega
  have hd3 : decide ((100 : Int) < (l.length : Int)) = false := by simp; omega
  obtain ⟨ns, hns⟩ : ∃ ns : List Nat, ns = ss.map fun s => 1 + (s % 8).toNat := ⟨_, rfl⟩
  have Hns := Lib.hid hns
  clear hns
  go_enter Try.func3, Try.ntmps3
  go_wp2_with fail
  refine hsm.out.mono ?_
  rintro e w0 ⟨rfl, hf0⟩
  have Hf0 := Lib.hid hf0
  clear hf0 hsm
  go_wp2_with fail
  go_loopw [6, 7, 8, 9] (fun vl vf tv iv wr => ∃ (k : Nat) (Ps : List (Nat × Nat)), iv = .int .i64 k ∧ k ≤ ss.length ∧ Ps.length = k ∧ tv = .int .i64 (offs (begin_ ns) k) ∧ Tks wr Ps (begin_ (ns.take k)) ∧
      wr.ownsRow w.heap.size 26 1 vl k (ptrs Ps) ∧ wr.ownsRow w.heap.size 3 1 vf k (firsts (begin_ ns) k) ∧ Fr [] w wr ∧ (∀ p ∈ Ps, w.heap.size ≤ p.1 ∧ w.heap.size ≤ p.2) ∧ offs (begin_ ns) k ≤ 8 * k)
    (fun _ _ _ iv _ => ss.length - (intOf iv).toNat)
  case atStart => exact ⟨0, [], rfl, by omega, rfl, rfl, ⟨rfl, fun j hj => absurd hj (by simp), fun x hx => by simp [begin_] at hx, fun i j hi => absurd hi (by simp)⟩, World.ownsRow_nil _ _ _ _, World.ownsRow_nil _ _ _ _, Hf0.out, by simp, by simp [offs]⟩
  case round =>
    obtain ⟨k, Ps, rfl, hk, hPs, rfl, hT, hol, hof, hfr, hpn, hoff⟩ := hrel
    have HT := Lib.hid hT
    have Hol := Lib.hid hol
    have Hof := Lib.hid hof
    have Hfr := Lib.hid hfr
    have Hpn := Lib.hid hpn
    have HPs := Lib.hid hPs
    have hz := hfr.size
    clear hT hol hof hfr hpn hPs
    by_cases hlt : k < ss.length
    · have ck : wr.cell? ⟨bs, os + k, none⟩ = some (.int .i64 ss[k]) := by
        rw [Hfr.out.cell Hcs.out.1 (by simp)]
        exact Hcs.out.2 k _ (by simp [hlt])
      have hb : bits .and .i64 ss[k] 7 = ((ss[k] % 8).toNat : Int) := by rw [i64_and7]; omega
      have hq : (ss[k] % 8).toNat ≤ 7 := by omega
      have hnk : Hid (ns[k]? = some (1 + (ss[k] % 8).toNat)) := by show _ = _; rw [Hns.out]; simp [hlt]
      generalize (ss[k] % 8).toNat = q at *
      go_wp2_with (first
        | (at_builtin; refine wpList_app rfl (.tmp 44) (.tmp 46) 22 rfl w.heap.size 3 _ 1 8 Try.underlying22 info_int rfl (by decide) _ _ _ rfl (Hof.out.alloc _) _ 3 _ rfl (row_new _ _ _ _ (by simp)) (by rfl) (by simp [Value.oneCell']) (by omega) (by omega) (by simp; omega) ?_; intro g1 c1 w1 hown1 hfr1)
        | fail)
      have Hown1 := Lib.hid hown1
      have Hfr1 := Lib.hid ((Hfr.out.alloc _).then hfr1 (fun i hi => .inr (own_fp Hof.out i hi).1))
      have HT1 : Hid (Tks w1 Ps (begin_ (ns.take k))) := (HT.out.quiet ((Fr.refl [] wr).alloc _)).fr hfr1 (fun j hj => by
        obtain ⟨⟨_, r1⟩, ⟨_, r2⟩⟩ := HT.out.rows j hj
        exact ⟨own_ne Hof.out r1 (by decide), own_ne Hof.out r2 (by decide)⟩)
      have Hol1 := Lib.hid (own_fr (Hol.out.alloc _) hfr1 (fun i hi => own_disj Hol.out Hof.out (by decide) i hi))
      clear hown1 hfr1 Hof Hol HT Hfr
      refine (new_any (1 + (q : Int)) w1).mono ?_
      rintro e w2 ⟨a, g, rfl, ha, hg, hag, T2, hf2⟩
      have hc2 : cnt (1 + (q : Int)) = 1 + q := by unfold cnt; omega
      have T3 : Trk w2 a (some ⟨g, 0, none⟩) (1 + q) (up (List.replicate (1 + q) (-1))) (mn (List.replicate (1 + q) (-1))) := by
        rw [up_rep, mn_rep (1 + q) (by omega), ← hc2]; exact T2
      have HT2 := Lib.hid (HT1.out.add (by intro e; have := congrArg List.length e; rw [List.length_replicate, List.length_nil] at this; omega) T3 hf2 ha hg)
      have Hol2 := Lib.hid (own_fr Hol1.out hf2 (by simp))
      have Hof2 := Lib.hid (own_fr Hown1.out hf2 (by simp))
      have Hfr2 := Lib.hid (Hfr1.out.trans hf2)
      have hz1 := Hfr1.out.size
      have hz2 := hf2.size
      clear T2 T3 hf2 hc2 HT1 Hol1 Hown1 Hfr1
      go_wp2_with (at_builtin; refine wpList_app rfl (.tmp 51) (.tmp 54) 25 rfl w.heap.size 26 _ 1 8 Try.underlying25 info_ptr rfl (by decide) _ _ _ rfl (Hol2.out.alloc _) _ 26 _ rfl (row_new _ _ _ _ (by simp)) (by rfl) (by simp [Value.oneCell']) (by omega) (by omega) (by simp; omega) ?_; intro g2 c2 w3 hown2 hfr3; have Hown2 := Lib.hid hown2; have Hfr3 := Lib.hid hfr3; have hcell := own_cell hown2 k (.pointer (some ⟨a, 0, none⟩)) (by simp [ptrs, HPs.out]); clear hown2 hfr3)
      have HT3 : Hid (Tks w3 (Ps ++ [(a, g)]) (begin_ (ns.take (k + 1)))) := by
        show Tks _ _ _
        rw [begin_take ns k _ hnk.out]
        exact (HT2.out.quiet ((Fr.refl [] w2).alloc _)).fr Hfr3.out (fun j hj => by
          obtain ⟨⟨_, r1⟩, ⟨_, r2⟩⟩ := HT2.out.rows j hj
          exact ⟨own_ne Hol2.out r1 (by decide), own_ne Hol2.out r2 (by decide)⟩)
      have Hof3 := Lib.hid (own_fr (Hof2.out.alloc _) Hfr3.out (fun i hi => own_disj Hof2.out Hol2.out (by decide) i hi))
      have Hfr4 := Lib.hid ((Hfr2.out.alloc _).then Hfr3.out (fun i hi => .inr (own_fp Hol2.out i hi).1))
      have Htv : Hid (Value.int .i64 ((offs (begin_ ns) k : Int) + (1 + (q : Int))) = .int .i64 (offs (begin_ ns) (k + 1) : Nat)) := by
        show _ = _
        rw [offs_begin ns k _ hnk.out]
        exact congrArg (Value.int .i64) (by omega)
      have Hob : Hid (offs (begin_ ns) (k + 1) ≤ 8 * (k + 1)) := by
        show _ ≤ _
        rw [offs_begin ns k _ hnk.out]
        omega
      clear HT2 Hof2 Hol2 Hfr2 Hfr3 hcell
      go_roundw
      case rel =>
        refine ⟨k + 1, Ps ++ [(a, g)], by go_num, by omega, by simp [HPs.out], Htv.out, HT3.out, ?_, ?_, Hfr4.out, ?_, Hob.out⟩
        · simpa [ptrs] using Hown2.out
        · rw [show firsts (begin_ ns) (k + 1) = firsts (begin_ ns) k ++ [.int .i64 (offs (begin_ ns) k)] by simp [firsts, List.range_succ]]
          exact Hof3.out
        · intro p hp
          rcases List.mem_append.1 hp with hp | hp
          · exact Hpn.out p hp
          · simp at hp; subst hp; omega
      case measure => simp [intOf]; omega
    · have hkk : k = ss.length := by omega
      subst hkk
      have hnl : ns.length = ss.length := by rw [Hns.out]; simp
      obtain ⟨gl, cl, hvl⟩ := own_form Hol.out (by omega)
      obtain ⟨gf, cf, hvf⟩ := own_form Hof.out (by omega)
      subst hvl hvf
      have ht0 : offs (begin_ ns) ss.length = (begin_ ns).flatten.length := by
        unfold offs
        rw [List.take_of_length_le (by simp [begin_, hnl]), List.length_flatten]
      have hn1 : ∀ n ∈ ns, 0 < n := by
        rw [Hns.out]
        intro n hn
        simp only [List.mem_map] at hn
        obtain ⟨s, _, rfl⟩ := hn
        omega
      have hn0 : ns ≠ [] := by intro e; rw [e] at hnl; simp at hnl; omega
      have HL := Lib.hid (begin_leaves ns hn0 hn1)
      have Hfl := Lib.hid (begin_flat ns)
      have Hmn := Lib.hid (begin_mn ns hn1)
      have hfne := flatten_ne HL.out.pos HL.out.ne
      have hT0 : 0 < offs (begin_ ns) ss.length := by
        rw [ht0]
        exact List.length_pos_iff.2 hfne
      have HT0 : Hid (Tks wr Ps (begin_ ns)) := by
        have := HT.out
        rw [List.take_of_length_le (by omega)] at this
        exact this
      have Hfne := Lib.hid hfne
      have Ht0 := Lib.hid ht0
      have Hnl := Lib.hid hnl
      clear hn1 hn0 hfne ht0 hnl HT Hns
      generalize hTT : offs (begin_ ns) ss.length = T at *
      have HTT := Lib.hid hTT
      clear hTT
      go_wp2_with fail
      refine (new_any (T : Int) wr).mono ?_
      rintro e w1 ⟨a1, g1, rfl, ha1, hg1, _, T1, hf1⟩
      have T1' : Trk w1 a1 (some ⟨g1, 0, none⟩) (cnt T) (up (begin_ ns).flatten) (mn (begin_ ns).flatten) := by
        rw [Hfl.out, ← Ht0.out, up_rep, mn_rep T hT0]
        have : cnt (T : Int) = T := by unfold cnt; omega
        rw [this] at T1 ⊢
        exact T1
      have HT1 := Lib.hid (HT0.out.add Hfne.out T1' hf1 ha1 hg1)
      have Hol1 := Lib.hid (own_fr Hol.out hf1 (by simp))
      have Hof1 := Lib.hid (own_fr Hof.out hf1 (by simp))
      have Hfr1 := Lib.hid (Hfr.out.trans hf1)
      have hz1 := hf1.size
      clear T1 T1' hf1 HT0 Hol Hof Hfr
      go_wp2_with fail
      refine (new_any (ss.length : Int) w1).mono ?_
      rintro e w2 ⟨a2, g2, rfl, ha2, hg2, _, T2, hf2⟩
      have T2' : Trk w2 a2 (some ⟨g2, 0, none⟩) (cnt ss.length) (up ((begin_ ns).map mn)) (mn ((begin_ ns).map mn)) := by
        rw [Hmn.out, Hnl.out, up_rep, mn_rep _ (by omega)]
        have : cnt (ss.length : Int) = ss.length := by unfold cnt; omega
        rw [this] at T2 ⊢
        exact T2
      have HT2 : Hid (TS w2 (Ps ++ [(a1, g1)] ++ [(a2, g2)]) (begin_ ns)) := HT1.out.add (by rw [Hmn.out, Hnl.out]; intro e; have := congrArg List.length e; rw [List.length_replicate, List.length_nil] at this; omega) T2' hf2 ha2 hg2
      have Hol2 := Lib.hid (own_fr Hol1.out hf2 (by simp))
      have Hof2 := Lib.hid (own_fr Hof1.out hf2 (by simp))
      have Hfr2 := Lib.hid (Hfr1.out.trans hf2)
      have Hpn2 : Hid (∀ p ∈ Ps ++ [(a1, g1)] ++ [(a2, g2)], w.heap.size ≤ p.1 ∧ w.heap.size ≤ p.2) := by
        intro p hp
        simp only [List.append_assoc, List.mem_append, List.mem_cons, List.not_mem_nil, or_false] at hp
        have := Hfr1.out.size
        rcases hp with hp | rfl | rfl
        · exact Hpn.out p hp
        · simp only; omega
        · simp only; omega
      clear T2 T2' hf2 HT1 Hol1 Hof1 Hfr1 Hpn Hfl Hmn
      have HR : Hid (Ps.length = ss.length) := HPs.out
      have HI0 : Hid (TI w2 w ss.length (Ps ++ [(a1, g1)] ++ [(a2, g2)]) (begin_ ns) (begin_ ns) gl gf Ps) := by
        obtain ⟨b1, sp1, r1⟩ := own_row Hol2.out
        obtain ⟨b2, sp2, r2⟩ := own_row Hof2.out
        exact ⟨HT2.out, HL.out, by simp [begin_, Hnl.out], fun _ => rfl, Hfr2.out, ⟨sp1, r1⟩, ⟨sp2, r2⟩, Hpn2.out⟩
      clear Hol2 Hof2 Hfr2 Hpn2 HT2 HL HPs Ht0 Hfne
      go_wp2_with fail
      go_loopw [13] (fun iv wr => ∃ (q : Nat) (L : List (List Int)), iv = .int .i64 q ∧ q ≤ l.length ∧ TI wr w ss.length (Ps ++ [(a1, g1)] ++ [(a2, g2)]) (begin_ ns) L gl gf Ps) (fun iv _ => l.length - (intOf iv).toNat)
      case atStart => exact ⟨0, begin_ ns, rfl, by omega, HI0.out⟩
      case round =>
        obtain ⟨q, L, rfl, hq, hI⟩ := hrel
        by_cases hlt : q < l.length
        · obtain ⟨x0, x1, x2⟩ := opCells_at l q hlt
          obtain ⟨b, off, rfl, hca⟩ := Hc.out (by omega)
          have Hbw : Hid (b < w.heap.size) := hca.1
          have hx : ∀ j u, (opCells l)[j]? = some u → wr.cell? ⟨b, off + j, none⟩ = some u := fun j u hu => by
            rw [hI.fr.cell hca.1 (by simp)]; exact hca.2 j u hu
          have k0 := hx _ _ x0
          have k1 := hx _ _ x1
          have k2 := hx _ _ x2
          rw [← Nat.add_assoc] at k1 k2
          generalize (l[q]).1 = d at *
          generalize (l[q]).2.1 = i at *
          generalize (l[q]).2.2 = m at *
          have hb : bits .and .i64 d 63 = ((d % 64).toNat : Int) := by rw [i64_and63]; omega
          generalize (d % 64).toNat = dq at *
          obtain ⟨kk, hkk, hkl⟩ : ∃ kk : Nat, (dq : Int) % (ss.length : Int) = kk ∧ kk < ss.length := ⟨dq % ss.length, by omega, Nat.mod_lt _ (by omega)⟩
          obtain ⟨spl, hrl⟩ := hI.rl
          obtain ⟨spf, hrf⟩ := hI.rf
          obtain ⟨ak, gk, hpk⟩ : ∃ ak gk, Ps[kk]? = some (ak, gk) := ⟨_, _, List.getElem?_eq_getElem (by rw [HR.out]; exact hkl)⟩
          have cl0 : wr.cell? ⟨gl, kk, none⟩ = some (.pointer (some ⟨ak, 0, none⟩)) := by
            rw [hrl.cell, List.getElem?_append_left (by simp [ptrs, HR.out]; omega)]
            simp [ptrs, hpk]
          have Hpk := Lib.hid hpk
          have hkL : kk < L.length := by rw [hI.len]; exact hkl
          obtain ⟨lk, hlk⟩ : ∃ lk, L[kk]? = some lk := ⟨_, List.getElem?_eq_getElem hkL⟩
          have hp3 : (Ps ++ [(a1, g1)] ++ [(a2, g2)])[kk]? = some (ak, gk) := by
            rw [List.append_assoc, List.getElem?_append_left (by rw [HR.out]; exact hkl)]
            exact hpk
          have hm3 : (L ++ [L.flatten] ++ [L.map mn])[kk]? = some lk := by
            rw [List.append_assoc, List.getElem?_append_left hkL]
            exact hlk
          have hts : TS wr.drew (Ps ++ [(a1, g1)] ++ [(a2, g2)]) L := hI.ts.quiet (Fr.refl [] _).drew
          have HTk := Lib.hid (hts.at_ hp3 hm3)
          have Hp3 := Lib.hid hp3
          have Hm3 := Lib.hid hm3
          have HI := Lib.hid hI
          have Hts := Lib.hid hts
          have HkL := Lib.hid hkL
          have Hlk := Lib.hid hlk
          have hlkne : lk ≠ [] := hI.lv.ne _ (List.mem_of_getElem? hlk)
          have Hlkne := Lib.hid hlkne
          clear x0 x1 x2 hx hI HI0 hca hpk hrl hrf hp3 hm3 hts hlk hlkne
          by_cases hok : 0 ≤ i ∧ i < (lk.length : Nat) ∧ -1 ≤ m ∧ m ≤ 1099511627776
          · obtain ⟨hi0, hi1, hm0, hm1⟩ := hok
            obtain ⟨ii, rfl⟩ : ∃ ii : Nat, i = ii := ⟨i.toNat, by omega⟩
            have hN := note_all HI.out.lv kk lk Hlk.out ii (by omega) m hm0 hm1
            rw [HI.out.off kk] at hN
            have hob : offs (begin_ ns) kk + ii ≤ 64 := by
              have h1 := offs_fits L kk lk Hlk.out
              rw [HI.out.len, HI.out.off, HI.out.off, HTT.out] at h1
              omega
            have cf0 : wr.cell? ⟨gf, kk, none⟩ = some (.int .i64 (offs (begin_ ns) kk)) := by
              obtain ⟨spf, hrf⟩ := HI.out.rf
              rw [hrf.cell, List.getElem?_append_left (by simp [firsts]; omega)]
              simp [firsts, hkl]
            generalize offs (begin_ ns) kk = o at *
            obtain ⟨l', hl'len, hLv, hl'ne, hfne, hmne, ⟨hE1, hS1⟩, ⟨hE2, hS2⟩, ⟨hE3, hS3⟩, hmnn⟩ := hN
            have hb1 : (noteE (up lk) ii m != 0) = false := by rw [hE1]; rfl
            have hb2 : (noteE (up L.flatten) ((o : Int) + ii) m != 0) = false := by rw [hE2]; rfl
            have hb3 : (noteE (up (L.map mn)) kk (mn l') != 0) = false := by rw [hE3]; rfl
            have Hmnn := Lib.hid hmnn
            have HS1 := Lib.hid hS1
            have HS2 := Lib.hid hS2
            have HS3 := Lib.hid hS3
            have Hne1 := Lib.hid hl'ne
            have Hne2 := Lib.hid hfne
            have Hne3 := Lib.hid hmne
            have HLv := Lib.hid hLv
            have Hll := Lib.hid hl'len
            clear hS1 hS2 hS3 hE1 hE2 hE3 hl'ne hfne hmne hLv hmnn hl'len
            go_wp2_with fail
            go_still_tail 11, (by kernel_rfl)
            change wpList _ _ _ _ _ wr.drew
            go_wp2_with fail
            obtain ⟨c, ht⟩ := HTk.out
            refine (note_any ht ii m).mono ?_
            rintro e w3 ⟨rfl, T3, hf3⟩
            rw [HS1.out] at T3
            have HT3 := Lib.hid (Hts.out.upd_ Hp3.out Hne1.out T3 hf3)
            have hfp : ∀ x ∈ fpA ak (some (⟨gk, 0, none⟩ : Addr)), w.heap.size ≤ x := by
              intro x hx
              have := HI.out.pn (ak, gk) (List.mem_of_getElem? Hp3.out)
              simp [fpA] at hx
              simp only at this
              omega
            have Hfr3 := Lib.hid (HI.out.fr.drew.then hf3 (fun x hx => .inr (hfp x hx)))
            obtain ⟨spl, hrl⟩ := HI.out.rl
            obtain ⟨spf, hrf⟩ := HI.out.rf
            have hrl3 := hrl.drew.fr hf3 (Hts.out.other_ hrl.drew (by decide) (by decide) Hp3.out)
            have hrf3 := hrf.drew.fr hf3 (Hts.out.other_ hrf.drew (by decide) (by decide) Hp3.out)
            have hbw : b < w.heap.size := Hbw.out
            have hbn : b ∉ fpA ak (some (⟨gk, 0, none⟩ : Addr)) := fun hx => by have := hfp b hx; omega
            have hzw := HI.out.fr.size
            have j1 : w3.cell? ⟨b, off + q * 3 + 1, none⟩ = some (.int .i64 ii) := by rw [hf3.cell (by show b < wr.heap.size; omega) hbn]; exact k1
            have j2 : w3.cell? ⟨b, off + q * 3 + 2, none⟩ = some (.int .i64 m) := by rw [hf3.cell (by show b < wr.heap.size; omega) hbn]; exact k2
            have jf : w3.cell? ⟨gf, kk, none⟩ = some (.int .i64 o) := by
              rw [hf3.cell (by exact hrf.lt) (Hts.out.other_ hrf.drew (by decide) (by decide) Hp3.out)]; exact cf0
            have Hrl3 := Lib.hid hrl3
            have Hrf3 := Lib.hid hrf3
            clear ht T3 hf3 hfp hrl hrf hrl3 hrf3 hbn k0 k1 k2 cl0 cf0 hb
            have hLl := HI.out.len
            have HpA : Hid ((Ps ++ [(a1, g1)] ++ [(a2, g2)])[ss.length]? = some (a1, g1)) := by
              show _ = _
              rw [← HR.out, List.append_assoc, List.getElem?_append_right (Nat.le_refl _)]; simp
            have HpT : Hid ((Ps ++ [(a1, g1)] ++ [(a2, g2)])[ss.length + 1]? = some (a2, g2)) := by
              show _ = _
              rw [← HR.out, List.append_assoc, List.getElem?_append_right (by omega)]; simp
            have HmA : Hid (((L ++ [L.flatten] ++ [L.map mn]).set kk l')[ss.length]? = some L.flatten) := by
              show _ = _
              rw [← hLl, List.getElem?_set_ne (by omega), List.append_assoc, List.getElem?_append_right (Nat.le_refl _)]; simp
            have HmL : Hid ((((L ++ [L.flatten] ++ [L.map mn]).set kk l').set ss.length (L.set kk l').flatten)[kk]? = some l') := by
              show _ = _
              rw [List.getElem?_set_ne (by omega), List.getElem?_set_self (by simp; omega)]
            have HmT : Hid ((((L ++ [L.flatten] ++ [L.map mn]).set kk l').set ss.length (L.set kk l').flatten)[ss.length + 1]? = some (L.map mn)) := by
              show _ = _
              rw [← hLl, List.getElem?_set_ne (by omega), List.getElem?_set_ne (by omega), List.append_assoc, List.getElem?_append_right (by omega)]; simp
            have Hs3 := Lib.hid (sets3 L kk HkL.out l' (L.set kk l').flatten ((L.set kk l').map mn) L.flatten (L.map mn))
            rw [hLl] at Hs3
            have hfpA : ∀ x ∈ fpA a1 (some (⟨g1, 0, none⟩ : Addr)), w.heap.size ≤ x := by
              intro x hx
              have := HI.out.pn (a1, g1) (by simp)
              simp [fpA] at hx
              simp only at this
              omega
            have hfpT : ∀ x ∈ fpA a2 (some (⟨g2, 0, none⟩ : Addr)), w.heap.size ≤ x := by
              intro x hx
              have := HI.out.pn (a2, g2) (by simp)
              simp [fpA] at hx
              simp only at this
              omega
            have HfpA := Lib.hid hfpA
            have HfpT := Lib.hid hfpT
            clear hfpA hfpT hLl
            have HT3' := Lib.hid (HT3.out.quiet (Fr.refl [] _).drew)
            have hbA : b ∉ fpA a1 (some (⟨g1, 0, none⟩ : Addr)) := fun hx => by have := HfpA.out b hx; omega
            have hbT : b ∉ fpA a2 (some (⟨g2, 0, none⟩ : Addr)) := fun hx => by have := HfpT.out b hx; omega
            have HbA := Lib.hid hbA
            have HbT := Lib.hid hbT
            obtain ⟨cA, htA⟩ := HT3'.out.at_ HpA.out HmA.out
            have HcA := Lib.hid (note_any htA ((o : Int) + ii) m)
            rw [HS2.out] at HcA
            have hz3 := Hfr3.out.size
            clear hbA hbT htA
            go_wp2_with fail
            have Hwp : Hid (IntKind.i64.wrap ((o : Int) + (ii : Int)) = (o : Int) + (ii : Int)) := by show _ = _; rw [IntKind.wrap_i64]; omega
            go_region_held3 (fun w' => w'.cell? ⟨gf, kk, none⟩ = some (.int .i64 o) ∧ w'.cell? ⟨b, off + q * 3 + 1, none⟩ = some (.int .i64 ii) ∧ w'.cell? ⟨b, off + q * 3 + 2, none⟩ = some (.int .i64 m)) (go_keep)
              (first
                | (go_at_call_of 8 (Value.pointer (some (⟨a1, 0, none⟩ : Addr)))
                   rw [Hwp.out]
                   refine HcA.out.mono ?_
                   rintro e w4 ⟨rfl, T4, hf4⟩
                   have HT4 := Lib.hid (HT3'.out.upd_ HpA.out Hne2.out T4 hf4)
                   have Hfr4 := Lib.hid (Hfr3.out.drew.then hf4 (fun x hx => .inr (HfpA.out x hx)))
                   have Hrl4 := Lib.hid (Hrl3.out.drew.fr hf4 (HT3'.out.other_ Hrl3.out.drew (by decide) (by decide) HpA.out))
                   have Hrf4 := Lib.hid (Hrf3.out.drew.fr hf4 (HT3'.out.other_ Hrf3.out.drew (by decide) (by decide) HpA.out))
                   have q1 : w4.cell? ⟨b, off + q * 3 + 1, none⟩ = some (.int .i64 ii) := by rw [hf4.cell (by show b < w3.heap.size; omega) HbA.out]; exact j1
                   have q2 : w4.cell? ⟨b, off + q * 3 + 2, none⟩ = some (.int .i64 m) := by rw [hf4.cell (by show b < w3.heap.size; omega) HbA.out]; exact j2
                   have qf : w4.cell? ⟨gf, kk, none⟩ = some (.int .i64 o) := by rw [hf4.cell (by exact Hrf3.out.lt) (HT3'.out.other_ Hrf3.out.drew (by decide) (by decide) HpA.out)]; exact jf
                   obtain ⟨cL, htL⟩ := HT4.out.at_ Hp3.out HmL.out
                   have HcL := Lib.hid (mark_any htL)
                   obtain ⟨cT, htT⟩ := HT4.out.at_ HpT.out HmT.out
                   have HcT := Lib.hid (note_any htT kk (mn l'))
                   rw [HS3.out] at HcT
                   clear T4 hf4 htL htT)
                | (go_at_call_of 9 (Value.pointer (some (⟨ak, 0, none⟩ : Addr)))
                   refine HcL.out.mono ?_
                   rintro e w4' ⟨rfl, rfl⟩)
                | (go_at_call_of 8 (Value.pointer (some (⟨a2, 0, none⟩ : Addr)))
                   refine HcT.out.mono ?_
                   rintro e w5 ⟨rfl, T5, hf5⟩
                   have HT5 := HT4.out.upd_ HpT.out Hne3.out T5 hf5
                   rw [Hs3.out] at HT5
                   have HI5 : Hid (TI w5 w ss.length (Ps ++ [(a1, g1)] ++ [(a2, g2)]) (begin_ ns) (L.set kk l') gl gf Ps) := ⟨HT5, HLv.out, by simpa using HI.out.len, fun j => by rw [offs_set L kk lk l' Hlk.out Hll.out]; exact HI.out.off j, Hfr4.out.then hf5 (fun x hx => .inr (HfpT.out x hx)), ⟨spl, Hrl4.out.fr hf5 (HT4.out.other_ Hrl4.out (by decide) (by decide) HpT.out)⟩, ⟨spf, Hrf4.out.fr hf5 (HT4.out.other_ Hrf4.out (by decide) (by decide) HpT.out)⟩, HI.out.pn⟩
                   have HmA5 : Hid ((L.set kk l' ++ [(L.set kk l').flatten] ++ [(L.set kk l').map mn])[ss.length]? = some (L.set kk l').flatten) := by
                     show _ = _
                     rw [← HI5.out.len, List.append_assoc, List.getElem?_append_right (Nat.le_refl _)]; simp
                   have HmT5 : Hid ((L.set kk l' ++ [(L.set kk l').flatten] ++ [(L.set kk l').map mn])[ss.length + 1]? = some ((L.set kk l').map mn)) := by
                     show _ = _
                     rw [← HI5.out.len, List.append_assoc, List.getElem?_append_right (by omega)]; simp
                   have hz4 := Hfr4.out.size
                   have r1 : w5.cell? ⟨b, off + q * 3 + 1, none⟩ = some (.int .i64 ii) := by rw [hf5.cell (by show b < w4.heap.size; omega) HbT.out]; exact q1
                   have r2 : w5.cell? ⟨b, off + q * 3 + 2, none⟩ = some (.int .i64 m) := by rw [hf5.cell (by show b < w4.heap.size; omega) HbT.out]; exact q2
                   have rf : w5.cell? ⟨gf, kk, none⟩ = some (.int .i64 o) := by rw [hf5.cell (by exact Hrf4.out.lt) (HT4.out.other_ Hrf4.out (by decide) (by decide) HpT.out)]; exact qf
                   obtain ⟨cT5, htT5⟩ := HI5.out.ts.at_ HpT.out HmT5.out
                   rw [Hmnn.out] at htT5
                   have HcT5 := Lib.hid (mark_any htT5)
                   obtain ⟨cA5, htA5⟩ := HI5.out.ts.at_ HpA.out HmA5.out
                   have HcA5 := Lib.hid (mark_any htA5)
                   clear T5 hf5 HT5 htT5 htA5)
                | (go_at_call_of 9 (Value.pointer (some (⟨a2, 0, none⟩ : Addr)))
                   refine HcT5.out.mono ?_
                   rintro e w5' ⟨rfl, rfl⟩)
                | (go_at_call_of 9 (Value.pointer (some (⟨a1, 0, none⟩ : Addr)))
                   refine HcA5.out.mono ?_
                   rintro e w5' ⟨rfl, rfl⟩))
            go_wp2_with fail
            go_roundw
            case rel => exact ⟨q + 1, _, by go_num, by omega, HI5.out⟩
            case measure => simp [intOf]; omega
          · obtain ⟨hnE, hnS⟩ := note_not lk i m hok
            have hbn : (noteE (up lk) i m != 0) = true := bne_iff_ne.2 hnE
            have HnS := Lib.hid hnS
            clear hok hnE hnS
            go_wp2_with fail
            go_still_tail 11, (by kernel_rfl)
            change wpList _ _ _ _ _ wr.drew
            go_wp2_with fail
            obtain ⟨c, ht⟩ := HTk.out
            refine (note_any ht i m).mono ?_
            rintro e w3 ⟨rfl, T3, hf3⟩
            rw [HnS.out] at T3
            have HI3 : Hid (TI w3 w ss.length (Ps ++ [(a1, g1)] ++ [(a2, g2)]) (begin_ ns) L gl gf Ps) := by
              have hT := Hts.out.upd_ Hp3.out Hlkne.out T3 hf3
              obtain ⟨spl, hrl⟩ := HI.out.rl
              obtain ⟨spf, hrf⟩ := HI.out.rf
              have hset : (L ++ [L.flatten] ++ [L.map mn]).set kk lk = L ++ [L.flatten] ++ [L.map mn] := by
                obtain ⟨h1, h2⟩ := List.getElem?_eq_some_iff.1 Hm3.out
                rw [← h2]
                exact List.set_getElem_self h1
              rw [hset] at hT
              refine ⟨hT, HI.out.lv, HI.out.len, HI.out.off, ?_, ⟨spl, hrl.drew.fr hf3 (Hts.out.other_ hrl.drew (by decide) (by decide) Hp3.out)⟩, ⟨spf, hrf.drew.fr hf3 (Hts.out.other_ hrf.drew (by decide) (by decide) Hp3.out)⟩, HI.out.pn⟩
              refine HI.out.fr.drew.then hf3 (fun x hx => .inr ?_)
              have := HI.out.pn (ak, gk) (List.mem_of_getElem? Hp3.out)
              simp [fpA] at hx
              simp only at this
              omega
            clear ht T3 hf3
            go_wp2
            go_roundw
            case rel => exact ⟨q + 1, L, by go_num, by omega, HI3.out⟩
            case measure => simp [intOf]; omega
        · have Hfr := Lib.hid hI.fr
          clear hI
          go_wp2
          go_ret
          exact ⟨rfl, Hfr.out⟩

end Go.Proofs.Ythajdajhclpaaaa
