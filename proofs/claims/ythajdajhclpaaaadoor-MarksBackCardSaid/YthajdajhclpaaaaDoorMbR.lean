/- Layer 35: Read. -/
import Derived.Test.YthajdajhclpaaaaDoorMbW
import Derived.Test.YthajdajhclpaaaaDoorWireI
import Derived.Deep.AppendLies
import Derived.Deep.RegionLaw
import Derived.Deep.DeepCutAuto
namespace Go.Proofs.YthajdajhclpaaaaDoor
open Go.RowKit Go.Shelf Wr

theorem add_head (g j : Nat) : (⟨g, 0, none⟩ : Addr).add j = ⟨g, j, none⟩ := by unfold Addr.add; split <;> simp_all
theorem own_sl {w : World} {base n size : Nat} {e : TypeId} {xs : List Value} {v : Value} (h : w.ownsRow base e size v n xs) : ∃ A c, v = .slice A n c := by
  rcases h.2 with ⟨h1, h2⟩ | ⟨g, c, cur, h1, _⟩
  · exact ⟨none, 0, by rw [h1, h2]⟩
  · exact ⟨_, _, h1⟩
theorem own_nilK (w : World) (B : Nat) (t : TypeId) (size : Nat) (h : B ≤ w.heap.size) : w.ownsRow B t size (.slice none 0 0) 0 [] := ⟨by simp, .inl ⟨rfl, rfl⟩⟩
theorem pair_len (l : List UInt8) (b : Bool) (least : Int) : (rnum 59 least (l, b)).2.1.length ≤ l.length := (rnum_len 59 least (l, b)).1
theorem rint_i64 (s : Rd) : I64 (rint s).1 := (rnum_range 59 (-9223372036854775808) s).1
theorem all_app (l : List (Int × Int)) (g : Bool) (x y : Int) : (g && (l ++ [(x, y)]).all Mk.okPair) = ((g && l.all Mk.okPair) && Mk.okPair (x, y)) := by
  rw [List.all_append]
  simp [Bool.and_assoc]
theorem insOf_app (l : List (Int × Int)) (x y : Int) : Mk.insOf (l ++ [(x, y)]) = Mk.insOf l ++ [(x, decide (y = 1))] := by unfold Mk.insOf; rw [List.map_append]; rfl
theorem insOf_len (l : List (Int × Int)) : (Mk.insOf l).length = l.length := by unfold Mk.insOf; rw [List.length_map]
/-- The tracker that Read makes. -/
structure Mst (w : World) (w0 a2 : Nat) (A : Option Addr) (c : Nat) (ins : List (Int × Bool)) (com : Int) : Prop where
  row : Row w a2 95 [.slice A ins.length c, .int .i64 com]
  own : w.ownsRow w0 93 2 (.slice A ins.length c) ins.length (flat ins)
theorem Mst.c0 {w : World} {w0 a2 : Nat} {A : Option Addr} {c : Nat} {ins : List (Int × Bool)} {com : Int} (h : Mst w w0 a2 A c ins com) : w.cell? ⟨a2, 0, none⟩ = some (.slice A ins.length c) := by rw [h.row.cell]; rfl
theorem Mst.c1 {w : World} {w0 a2 : Nat} {A : Option Addr} {c : Nat} {ins : List (Int × Bool)} {com : Int} (h : Mst w w0 a2 A c ins com) : w.cell? ⟨a2, 1, none⟩ = some (.int .i64 com) := by rw [h.row.cell]; rfl
theorem Mst.far {w : World} {w0 a2 : Nat} {A : Option Addr} {c : Nat} {ins : List (Int × Bool)} {com : Int} (h : Mst w w0 a2 A c ins com) : a2 ∉ fpv (.slice A ins.length c) := own_ne h.own h.row (by decide)
theorem Mst.fr {w w' : World} {S : List Nat} {w0 a2 : Nat} {A : Option Addr} {c : Nat} {ins : List (Int × Bool)} {com : Int} (h : Mst w w0 a2 A c ins com) (hf : Fr S w w') (h1 : a2 ∉ S) (h2 : ∀ k, k ∈ S → k ∉ fpv (.slice A ins.length c)) : Mst w' w0 a2 A c ins com :=
  ⟨h.row.fr hf h1, own_fr h.own hf (fun k hk hin => h2 k hin hk)⟩
theorem Mst.quiet {w w' : World} {w0 a2 : Nat} {A : Option Addr} {c : Nat} {ins : List (Int × Bool)} {com : Int} (h : Mst w w0 a2 A c ins com) (hf : Fr [] w w') : Mst w' w0 a2 A c ins com := h.fr hf (by simp) (by simp)
theorem Mst.trk {w : World} {w0 a2 : Nat} {A : Option Addr} {c : Nat} {ins : List (Int × Bool)} {com : Int} (h : Mst w w0 a2 A c ins com) (hl : ins.length ≤ 1000) : Trk w a2 A c ins com := by
  refine ⟨h.row, ?_, hl⟩
  cases ins with
  | nil => exact .inl rfl
  | cons x l =>
    obtain ⟨g, c', hv⟩ := own_form h.own (by simp)
    injection hv with h1 h2 h3
    subst h1
    obtain ⟨_, sp, hr⟩ := own_row h.own
    exact .inr ⟨g, sp, rfl, hr⟩
theorem Mst.base {w : World} {w0 a2 : Nat} {A : Option Addr} {c : Nat} {ins : List (Int × Bool)} {com : Int} (h : Mst w w0 a2 A c ins com) (ha : w0 ≤ a2) : ∀ k, k ∈ fpA a2 A → w0 ≤ k := by
  intro k hk
  rcases List.mem_cons.1 hk with rfl | hk
  · exact ha
  · exact (own_fp h.own k (by cases A with
      | none => cases hk
      | some p =>
        have e : k = p.block := by simpa using hk
        subst e
        rcases h.own.2 with ⟨h1, _⟩ | ⟨g, cap, cur, h1, _⟩
        · cases h1
        · cases h1
          simp [fpv, Value.ownBlock])).1
/-- What Read answers. -/
def ReadSays (l : List UInt8) (w : World) (e : Ending) (w' : World) : Prop := Fr [] w w' ∧
    ((∃ a A c, e = .returned (.tuple #[.pointer (some ⟨a, 0, none⟩), .bool true]) ∧ (∀ k, k ∈ fpA a A → w.heap.size ≤ k) ∧ Mk.MOk l ∧ Trk w' a A c (Mk.insOf (Mk.mprs l).1) (Mk.mcom l)) ∨
      (¬ Mk.MOk l ∧ e = .returned (.tuple #[.pointer none, .bool false])))

set_option maxRecDepth 100000 in
set_option maxHeartbeats 8000000 in
theorem mread_any (l : List UInt8) (hl : l.length ≤ 10000000) {B : Nat} {w : World} (hw : LW B w) : Calls Tryd.prog 49 #[.string ⟨l.toArray⟩] w (ReadSays l w) := by
  have H := Lib.hid hw
  have hwB := hw.le
  clear hw
  have e1 : Mk.mcom l = (rint (l, false)).1 := rfl
  have e2 : Mk.mnum l = (rnat (rint (l, false)).2).1 := rfl
  have e3 : Mk.mprs l = Mk.rpairs (Mk.mnum l).toNat (rnat (rint (l, false)).2).2 := rfl
  have hmok : Mk.MOk l ↔ Mk.mnum l ≤ 200 ∧ Mk.okT (Mk.mcom l) = true ∧ (Mk.mprs l).1.all Mk.okPair = true ∧ (Mk.mprs l).2 = ([], false) ∧ Mk.settled (Mk.insOf (Mk.mprs l).1) (Mk.mcom l) = Mk.mcom l := Iff.rfl
  have HP : Hid (∀ e w', Fr [] w w' → (∃ a A c, e = .returned (.tuple #[.pointer (some ⟨a, 0, none⟩), .bool true]) ∧ (∀ k, k ∈ fpA a A → w.heap.size ≤ k) ∧ Mk.MOk l ∧ Trk w' a A c (Mk.insOf (Mk.mprs l).1) (Mk.mcom l)) ∨ (¬ Mk.MOk l ∧ e = .returned (.tuple #[.pointer none, .bool false])) → ReadSays l w e w') := fun e w' h1 h2 => ⟨h1, h2⟩
  generalize ReadSays l w = POST at *
  rw [e2] at e3 hmok
  rw [e1, e3] at hmok
  rw [e1, e3] at HP
  clear e1 e2 e3
  have hb0 := (rnum_range 59 0 (rint (l, false)).2)
  have hlA : (rint (l, false)).2.1.length ≤ l.length := pair_len l false _
  have hlB : (rnat (rint (l, false)).2).2.1.length ≤ (rint (l, false)).2.1.length := (rnum_len 59 0 _).1
  have HI : Hid (∀ w1 a, RdIs w1 a (l, false) → LW B w1 → B ≤ a → Calls Tryd.prog 26 #[.pointer (some ⟨a, 0, none⟩)] w1 fun en w' => en = .returned (.int .i64 (rint (l, false)).1) ∧ RdIs w' a (rint (l, false)).2 ∧ Fr [a] w1 w') := fun w1 a h1 h2 h3 => int_any a l false B w1 h1 h2 h3 (by omega)
  have hc64 := rint_i64 (l, false)
  generalize rint (l, false) = q1 at *
  obtain ⟨com, l1, f1⟩ := q1
  simp only at hlA hlB HI hmok HP hb0 hc64
  have HN : Hid (∀ w1 a, RdIs w1 a (l1, f1) → LW B w1 → B ≤ a → Calls Tryd.prog 25 #[.pointer (some ⟨a, 0, none⟩)] w1 fun en w' => en = .returned (.int .i64 (rnat (l1, f1)).1) ∧ RdIs w' a (rnat (l1, f1)).2 ∧ Fr [a] w1 w') := fun w1 a h1 h2 h3 => num_any a l1 f1 B w1 h1 h2 h3 (by omega)
  have hn0 : 0 ≤ (rnat (l1, f1)).1 := by
    exact hb0.2.elim (fun h => by show 0 ≤ (rnum 59 0 (l1, f1)).1; rw [h]; exact Int.le_refl _) (fun h => h)
  generalize rnat (l1, f1) = q2 at *
  obtain ⟨n, l2, f2⟩ := q2
  simp only at hlB HN hmok HP hn0
  obtain ⟨m0, rfl⟩ : ∃ k : Nat, n = k := ⟨n.toNat, by omega⟩
  rw [Int.toNat_natCast] at hmok HP
  have Hmok := Lib.hid hmok
  clear hmok hb0
  by_cases hbig : (200 : Int) < m0
  · go_enter Tryd.func49, Tryd.ntmps49
    go_wp2_with fail
    refine (open_any l _).mono ?_
    rintro e w1 ⟨a1, rfl, ha1, hr1, hf1⟩
    have Hf1 := Lib.hid hf1
    have Hr1 := Lib.hid hr1
    clear hf1 hr1
    go_wp2_with fail
    refine (HI.out _ a1 Hr1.out (H.out.quiet Hf1.out) (by omega)).mono ?_
    rintro e w2 ⟨rfl, hr2, hf2⟩
    have Hf2 := Lib.hid (Hf1.out.then hf2 (fun j hj => .inr (by have e : j = a1 := (by simpa using hj); omega)))
    have Hr2 := Lib.hid (Row.alloc hr2 (.cells #[.slice none 0 0, .int .i64 com] 95))
    clear hr2 hf2
    go_wp2_with fail
    refine (HN.out _ a1 Hr2.out (H.out.quiet (Hf2.out.alloc _)) (by omega)).mono ?_
    rintro e w3 ⟨rfl, hr3, hf3⟩
    have Hf3 := Lib.hid ((Hf2.out.alloc (.cells #[.slice none 0 0, .int .i64 com] 95)).then hf3 (fun j hj => .inr (by have e : j = a1 := (by simpa using hj); omega)))
    clear hr3 hf3
    go_wp2
    exact HP.out _ _ Hf3.out (.inr ⟨fun h => by have := (Hmok.out.1 h).1; omega, rfl⟩)
  have hnb : decide ((200 : Int) < (m0 : Int)) = false := decide_eq_false hbig
  have hm200 : m0 ≤ 200 := by omega
  go_enter Tryd.func49, Tryd.ntmps49
  go_wp2_with fail
  refine (open_any l _).mono ?_
  rintro e w1 ⟨a1, rfl, ha1, hr1, hf1⟩
  have Hf1 := Lib.hid hf1
  have Hr1 := Lib.hid hr1
  clear hf1 hr1
  go_wp2_with fail
  refine (HI.out _ a1 Hr1.out (H.out.quiet Hf1.out) (by omega)).mono ?_
  rintro e w2 ⟨rfl, hr2, hf2⟩
  have Hf2 := Lib.hid (Hf1.out.then hf2 (fun j hj => .inr (by have e : j = a1 := (by simpa using hj); omega)))
  have Hr2 := Lib.hid (Row.alloc hr2 (.cells #[.slice none 0 0, .int .i64 com] 95))
  have Hrow2 := Lib.hid (row_new w2 95 #[.slice none 0 0, .int .i64 com] _ rfl)
  have hne12 : a1 < w2.heap.size := hr2.lt
  have hww2 : w.heap.size ≤ w2.heap.size := Hf2.out.size
  clear hr2 hf2
  go_wp2_with fail
  refine (HN.out _ a1 Hr2.out (H.out.quiet (Hf2.out.alloc _)) (by omega)).mono ?_
  rintro e w3 ⟨rfl, hr3, hf3⟩
  have Hf3 := Lib.hid ((Hf2.out.alloc (.cells #[.slice none 0 0, .int .i64 com] 95)).then hf3 (fun j hj => .inr (by have e : j = a1 := (by simpa using hj); omega)))
  have Hr3 := Lib.hid hr3
  have hrow3 := Hrow2.out.fr hf3 (by simp; omega)
  have Hrow3 := Lib.hid hrow3
  have g1 : w3.cell? ⟨w2.heap.size, 1, none⟩ = some (.int .i64 com) := by rw [hrow3.cell]; rfl
  clear hr3 hf3 Hr2 Hr1 Hf1 Hf2 HI HN hrow3 Hrow2
  obtain ⟨a2, ha2⟩ : ∃ a2, a2 = w2.heap.size := ⟨_, rfl⟩
  rw [← ha2] at Hrow3 g1 hne12 hww2 ⊢
  clear ha2
  have hst3 : Mst w3 w.heap.size a2 none 0 [] com := ⟨Hrow3.out, own_nilK _ _ _ _ Hf3.out.size⟩
  have Hst3 := Lib.hid hst3
  obtain ⟨gt, hgt⟩ : ∃ gt, gt = Mk.okT com := ⟨_, rfl⟩
  have Hgt := Lib.hid hgt
  have Hg0 : Hid ((Mk.okT com && ([] : List (Int × Int)).all Mk.okPair) = gt) := by
    show _ = _
    rw [hgt, List.all_nil, Bool.and_true]
  clear hgt hst3 Hrow3
  go_upto_region 6 with fail
  go_cut [7] (fun v7 wx => v7 = .bool gt ∧ wx = w3)
  case first =>
    have hgt := Hgt.out
    unfold Mk.okT at hgt
    obtain ⟨b1, hb1⟩ : ∃ b, decide (-1 ≤ com) = b := ⟨_, rfl⟩
    obtain ⟨b2, hb2⟩ : ∃ b, decide (com ≤ 1099511627776) = b := ⟨_, rfl⟩
    rw [hb1, hb2] at hgt
    subst hgt
    clear Hgt Hg0
    cases b1 <;> cases b2
    all_goals
      go_wp2_with fail
      go_meet
      exact ⟨rfl, rfl⟩
  obtain ⟨rfl, rfl⟩ := hcut
  go_wp2
  go_loopg [7, 33] m0 (fun gk v7 v33 wr => ∃ (i : Nat) (xs : List (Int × Int)) (s : Rd) (A : Option Addr) (c : Nat) (gd : Bool), v33 = .int .i64 i ∧ v7 = .bool gd ∧ i ≤ m0 ∧ m0 - i = gk ∧ xs.length = i ∧ (Mk.okT com && xs.all Mk.okPair) = gd ∧ Mk.rpairs m0 (l2, f2) = (xs ++ (Mk.rpairs (m0 - i) s).1, (Mk.rpairs (m0 - i) s).2) ∧ RdIs wr a1 s ∧ Mst wr w.heap.size a2 A c (Mk.insOf xs) com ∧ s.1.length ≤ l.length ∧ Fr [] w wr ∧ a2 < wr.heap.size)
  case atStart => exact ⟨0, [], (l2, f2), none, 0, _, rfl, rfl, Nat.zero_le _, rfl, rfl, Hg0.out, rfl, Hr3.out, Hst3.out, by show l2.length ≤ _; omega, Hf3.out, Hst3.out.row.lt⟩
  case round =>
    obtain ⟨i, xs, s, A, c, gd, rfl, rfl, hi, rfl, hxl, hgd, hrp, hr, hst, hsl, hfr, halt⟩ := hrel
    obtain ⟨ls, fs⟩ := s
    simp only at hsl
    have Hgd := Lib.hid hgd
    have Hrp := Lib.hid hrp
    have Hr := Lib.hid hr
    have Hst := Lib.hid hst
    have Hfr := Lib.hid hfr
    have Hxl := Lib.hid hxl
    have hil := insOf_len xs
    have Hil := Lib.hid (hil.trans hxl)
    clear hgd hrp hr hst hfr hxl hil g1
    by_cases hlt : i < m0
    · obtain ⟨k, hk⟩ : ∃ k, m0 - i = k + 1 := ⟨m0 - i - 1, by omega⟩
      have h1c := int_any a1 ls fs B wr Hr.out (H.out.quiet Hfr.out) (by omega) (by omega)
      have hrp := Hrp.out
      have hstep : Mk.rpairs (k + 1) (ls, fs) = (((rint (ls, fs)).1, (rint (rint (ls, fs)).2).1) :: (Mk.rpairs k (rint (rint (ls, fs)).2).2).1, (Mk.rpairs k (rint (rint (ls, fs)).2).2).2) := rfl
      rw [hk, hstep] at hrp
      have hl3 : (rint (ls, fs)).2.1.length ≤ ls.length := pair_len ls fs _
      generalize rint (ls, fs) = q3 at *
      obtain ⟨x, l3, f3⟩ := q3
      simp only at h1c hrp hl3
      have h2c : Hid (∀ w1, RdIs w1 a1 (l3, f3) → LW B w1 → Calls Tryd.prog 26 #[.pointer (some ⟨a1, 0, none⟩)] w1 fun en w' => en = .returned (.int .i64 (rint (l3, f3)).1) ∧ RdIs w' a1 (rint (l3, f3)).2 ∧ Fr [a1] w1 w') := fun w1 h1 h2 => int_any a1 l3 f3 B w1 h1 h2 (by omega) (by omega)
      have hl4 : (rint (l3, f3)).2.1.length ≤ l3.length := pair_len l3 f3 _
      generalize rint (l3, f3) = q4 at *
      obtain ⟨y, l4, f4⟩ := q4
      simp only at h2c hrp hl4
      have H1c := Lib.hid h1c
      have Hrp2 := Lib.hid hrp
      have Hk := Lib.hid hk
      clear h1c hrp hstep hk Hrp
      have Hall := Lib.hid (all_app xs (Mk.okT com) x y)
      have Hia := Lib.hid (insOf_app xs x y)
      have hxl2 : (Mk.insOf xs).length ≤ 200 := by have := Hil.out; omega
      obtain ⟨xb, hxb⟩ : ∃ xb : List (Int × Bool), xb = Mk.insOf xs := ⟨_, rfl⟩
      rw [← hxb] at Hst Hil Hia hxl2
      clear hxb
      go_wp2_with fail
      refine H1c.out.mono ?_
      rintro e w4 ⟨rfl, hr4, hf4⟩
      have hnf : a1 ∉ fpv (.slice A xb.length c) := own_ne Hst.out.own Hr.out (by decide)
      have Hst4 := Lib.hid (Hst.out.fr hf4 (by simp; omega) (fun k hk => by have e : k = a1 := (by simpa using hk); rw [e]; exact hnf))
      have Hf4 := Lib.hid (Hfr.out.then hf4 (fun j hj => .inr (by have e : j = a1 := (by simpa using hj); omega)))
      have Hr4 := Lib.hid hr4
      have ha24 : a2 < w4.heap.size := Nat.lt_of_lt_of_le halt hf4.size
      have ha14 : a1 < w4.heap.size := hr4.lt
      have hz4 : w.heap.size ≤ w4.heap.size := Hf4.out.size
      clear hr4 hf4 hnf
      have hra : RdIs (w4.alloc (.cells #[.int .i64 x, .bool false] 93)) a1 (l3, f3) := Row.alloc Hr4.out _
      have hfa : Fr [] w (w4.alloc (.cells #[.int .i64 x, .bool false] 93)) := Hf4.out.alloc _
      have hsta := Hst4.out.quiet ((Fr.refl [] w4).alloc (.cells #[.int .i64 x, .bool false] 93))
      have hnew := row_new w4 93 #[.int .i64 x, .bool false] _ rfl
      have Hc2 := Lib.hid (h2c.out _ hra (H.out.quiet hfa))
      have Hfa := Lib.hid hfa
      have Hsta := Lib.hid hsta
      have Hnew := Lib.hid hnew
      have Hra := Lib.hid hra
      have hop4 := Lib.hid (fun k (hk : k ∈ fpv (.slice A xb.length c)) => (own_fp Hst4.out.own k hk).2)
      clear hra hfa hsta hnew
      go_wp2_with fail
      refine Hc2.out.mono ?_
      rintro e w5 ⟨rfl, hr5, hf5⟩
      have hnf : a1 ∉ fpv (.slice A xb.length c) := own_ne Hsta.out.own Hra.out (by decide)
      have Hst5 := Lib.hid (Hsta.out.fr hf5 (by simp; omega) (fun k hk => by have e : k = a1 := (by simpa using hk); rw [e]; exact hnf))
      have Hf5 := Lib.hid (Hfa.out.then hf5 (fun j hj => .inr (by have e : j = a1 := (by simpa using hj); omega)))
      have Hr5 := Lib.hid hr5
      have hx5 := Hnew.out.fr hf5 (by simp; omega)
      have Hx5 := Lib.hid hx5
      have x0 : w5.cell? ⟨w4.heap.size, 0, none⟩ = some (.int .i64 x) := by rw [hx5.cell]; rfl
      have x1 : w5.cell? ⟨w4.heap.size, 1, none⟩ = some (.bool false) := by rw [hx5.cell]; rfl
      have xz := hx5.frozen 1
      have hz5 : w4.heap.size < w5.heap.size := hx5.lt
      clear hr5 hf5 hnf hx5 Hc2 h2c Hra Hsta Hfa Hst4 Hr4 Hnew
      obtain ⟨h4, hh4⟩ : ∃ h4, h4 = w4.heap.size := ⟨_, rfl⟩
      rw [← hh4] at ha24 ha14 hz4 Hx5 x0 x1 xz hz5 hop4 ⊢
      clear hh4
      obtain ⟨yb, hyb⟩ : ∃ yb, (y == 1) = yb := ⟨_, rfl⟩
      obtain ⟨nb, hnb⟩ : ∃ nb, nb = (gd && Mk.okPair (x, y)) := ⟨_, rfl⟩
      have Hnb : Hid ((Mk.okT com && (xs ++ [(x, y)]).all Mk.okPair) = nb) := by
        show _ = _
        rw [Hall.out, Hgd.out, hnb]
      have Hia2 : Hid (Mk.insOf (xs ++ [(x, y)]) = xb ++ [(x, yb)]) := by
        show _ = _
        rw [Hia.out, ← hyb]
        rfl
      have Hnx := Lib.hid hnb
      clear Hall Hia hnb
      go_upto_region 12 with fail
      obtain ⟨w6, hw6⟩ : ∃ w6, w6 = w5.setCell ⟨h4, 1, none⟩ (.bool yb) := ⟨_, rfl⟩
      have hf6 : Fr [h4] w5 w6 := by rw [hw6]; exact Fr.set (Fr.refl _ _) (.inl (by simp)) _
      have hx6 : Row w6 h4 93 [.int .i64 x, .bool yb] := by rw [hw6]; exact Hx5.out.set 1 _
      have hst6 : Mst w6 w.heap.size a2 A c xb com := Hst5.out.fr hf6 (by simp; omega) (fun k hk hin => by
        have e : k = h4 := (by simpa using hk)
        have := hop4.out k hin
        omega)
      have hr6 : RdIs w6 a1 (l4, f4) := Hr5.out.fr hf6 (by simp; omega)
      have hfr6 : Fr [] w w6 := Hf5.out.then hf6 (fun j hj => .inr (by have e : j = h4 := (by simpa using hj); omega))
      rw [← hw6]
      have u0 : w6.cell? ⟨h4, 0, none⟩ = some (.int .i64 x) := by rw [hx6.cell]; rfl
      have u1 : w6.cell? ⟨h4, 1, none⟩ = some (.bool yb) := by rw [hx6.cell]; rfl
      clear hw6 x0 x1 xz
      have Hst6 := Lib.hid hst6
      have Hr6 := Lib.hid hr6
      have Hfr6 := Lib.hid hfr6
      have Hx6 := Lib.hid hx6
      clear hst6 hr6 hfr6 hx6 hf6
      go_cut [7] (fun v7 wx => v7 = .bool nb ∧ wx = w6)
      case first =>
        have hnx := Hnx.out
        unfold Mk.okPair Mk.okT at hnx
        simp only at hnx
        obtain ⟨b1, hb1⟩ : ∃ b, decide (-1 ≤ x) = b := ⟨_, rfl⟩
        obtain ⟨b2, hb2⟩ : ∃ b, decide (x ≤ 1099511627776) = b := ⟨_, rfl⟩
        obtain ⟨b3, hb3⟩ : ∃ b, (y == 0) = b := ⟨_, rfl⟩
        have hb3' : decide (y = 0) = b3 := hb3
        have hyb' : decide (y = 1) = yb := hyb
        rw [hb1, hb2, hb3', hyb'] at hnx
        subst hnx
        clear Hnb Hnx Hia2 hb3' hyb' Hgd
        cases gd <;> cases b1 <;> cases b2 <;> cases b3 <;> cases yb
        all_goals
          go_wp2_with fail
          go_meet
          exact ⟨rfl, rfl⟩
      obtain ⟨rfl, hwc⟩ := hcut
      have hwc2 : w6 = wc := hwc.symm
      subst hwc2
      clear hwc
      go_upto_region 13 with fail
      have hrow6 := row_new w6 93 #[.int .i64 x, .bool yb] _ rfl
      have hst7 := (Hst6.out.quiet ((Fr.refl [] w6).alloc (.cells #[.int .i64 x, .bool yb] 93))).quiet (Fr.refl [] _).drew
      have Hrow7 := Lib.hid (hrow6.drew)
      have Hst7 := Lib.hid hst7
      have t0 : w6.cell? ⟨a2, 0, none⟩ = some (.slice A xb.length c) := Hst6.out.c0
      have tz : w6.drew.frozen? ⟨a2, 0, none⟩ = false := Hst6.out.row.frozen 0
      have v0 : (w6.alloc (.cells #[.int .i64 x, .bool yb] 93)).cell? ⟨a2, 0, none⟩ = some (.slice A xb.length c) := hst7.c0
      have vz : (w6.alloc (.cells #[.int .i64 x, .bool yb] 93)).frozen? ⟨a2, 0, none⟩ = false := hst7.row.frozen 0
      have y0 : (w6.alloc (.cells #[.int .i64 x, .bool yb] 93)).cell? ⟨h4, 0, none⟩ = some (.int .i64 x) := by rw [(Hx6.out.alloc _).cell]; rfl
      have y1 : (w6.alloc (.cells #[.int .i64 x, .bool yb] 93)).cell? ⟨h4, 1, none⟩ = some (.bool yb) := by rw [(Hx6.out.alloc _).cell]; rfl
      have Hf7 := Lib.hid ((Hfr6.out.alloc (.cells #[.int .i64 x, .bool yb] 93)).drew)
      have Hr7 := Lib.hid (Row.drew (Row.alloc Hr6.out (.cells #[.int .i64 x, .bool yb] 93)))
      have hz7 : w.heap.size ≤ (w6.alloc (.cells #[.int .i64 x, .bool yb] 93)).drew.heap.size := Hf7.out.size
      obtain ⟨i0, hi0, hzz, hsz, hby⟩ := info_parts info_input
      have Hi := Lib.hid hi0
      have Hz := Lib.hid hzz
      have Hsz := Lib.hid hsz
      have Hby := Lib.hid hby
      clear hrow6 hst7 hi0 hzz hsz hby
      go_region_law
        (refine step_append_lies _ (by rfl) (.tmp 66) (.tmp 68) 90 (by rfl) w.heap.size 93 i0 _ 2 16 Tryd.underlying90 Hi.out Hz.out Hsz.out Hby.out (by rfl) (by decide)
           (.slice A xb.length c) xb.length (flat xb) (by rfl) Hst7.out.own ⟨w6.heap.size, 0, none⟩ 1 1 [.int .i64 x, .bool yb] (by rfl) (by rfl)
           (by intro j u hu; rw [add_head, Hrow7.out.cell]; exact hu)
           (by intro u hu; simp only [List.mem_cons, List.not_mem_nil, or_false] at hu; rcases hu with rfl | rfl <;> rfl) (by decide) (by unfold maxLen; omega) (by omega) hz7 _ (by rfl) ?_
         intro g8 c8 w8 hown8 hgr8 hat8 hlt8
         have hF8 := fr_of_grown hgr8
         have hna : a2 ∉ fpv (.slice A xb.length c) := Hst7.out.far
         have d5 : w8.cell? ⟨a2, 0, none⟩ = some (.slice A xb.length c) := (hF8.cell Hst7.out.row.lt hna).trans Hst7.out.c0
         have d6 : w8.frozen? ⟨a2, 0, none⟩ = false := (hF8.fz Hst7.out.row.lt hna).trans (Hst7.out.row.frozen 0)
         have HF8 := Lib.hid hF8
         have Hown8 := Lib.hid hown8
         have Hna := Lib.hid hna
         clear hF8 hown8 hat8 hgr8 hna)
      all_goals
        go_wp2
        go_roundg k
        case measure => have := Hk.out; omega
        case rel =>
          have hna8 : a2 ∉ fpv (.slice (some ⟨g8, 0, none⟩) (xb.length + 1) c8) := own_ne Hown8.out (Hst7.out.row.fr HF8.out Hna.out) (by decide)
          refine ⟨i + 1, xs ++ [(x, y)], (l4, f4), some ⟨g8, 0, none⟩, c8, nb, by go_num, rfl, by omega, by have := Hk.out; omega, by rw [List.length_append, Hxl.out]; rfl, Hnb.out, ?_, ?_, ?_, by show l4.length ≤ _; omega, ?_, ?_⟩
          · have hk1 := Hk.out
            rw [show m0 - (i + 1) = k by omega, Hrp2.out, List.append_assoc]
            rfl
          · exact Row.far (Hr7.out.fr HF8.out (own_ne Hst7.out.own Hr7.out (by decide))) (by simp; omega) _
          · rw [Hia2.out]
            refine ⟨?_, ?_⟩
            · have := (Hst7.out.row.fr HF8.out Hna.out).set 0 (.slice (some ⟨g8, 0, none⟩) (xb.length + 1) c8)
              rw [List.length_append]
              exact this
            · have := own_fr Hown8.out (Fr.set (S := [a2]) (p := ⟨a2, 0, none⟩) (Fr.refl _ _) (.inl (by simp)) (.slice (some ⟨g8, 0, none⟩) (xb.length + 1) c8)) (fun j hj hin => hna8 (by have e : j = a2 := (by simpa using hin); rw [← e]; exact hj))
              rw [List.length_append, flat_app]
              exact this
          · exact Fr.set (Hf7.out.then HF8.out (fun j hj => .inr (own_fp Hst7.out.own j hj).1)) (.inr (by simp; omega)) _
          · have h1 := HF8.out.size
            have h2 := Hst7.out.row.lt
            simp [World.setCell]
            omega
    · have him : i = m0 := by omega
      subst him
      have hrp := Hrp.out
      rw [Nat.sub_self] at hrp
      have e0 : Mk.rpairs 0 (ls, fs) = ([], (ls, fs)) := rfl
      rw [e0, List.append_nil] at hrp
      have hmok := Hmok.out
      rw [hrp] at hmok HP
      simp only at hmok HP
      have Hmok2 := Lib.hid hmok
      have c1 := Hst.out.c1
      have hxl2 : (Mk.insOf xs).length ≤ 200 := by have := Hil.out; omega
      have Htrk := Lib.hid (Hst.out.trk (by omega))
      have Hbase := Lib.hid (Hst.out.base (by omega))
      have Hset := Lib.hid (settled_any Htrk.out.drew)
      have HD := Lib.hid (done_any a1 (ls, fs) _ (Row.drew Hr.out))
      have hdn : ((!fs && decide (ls = [])) = true ∧ (ls, fs) = ([], false)) ∨ ((!fs && decide (ls = [])) = false ∧ (ls, fs) ≠ ([], false)) := by
        cases fs <;> cases ls <;> simp
      clear hmok hrp e0 Hrp
      simp only at HD
      generalize (!fs && decide (ls = [])) = dn at *
      cases gd with
      | false =>
        have hnot : ¬ Mk.MOk l := fun h => by
          have h2 := Hmok2.out.1 h
          have h3 := Hgd.out
          rw [h2.2.1, h2.2.2.1] at h3
          cases h3
        have Hnot := Lib.hid hnot
        clear hnot hdn
        go_wp2_with fail
        refine wp_region_held_drew (S := fun _ => True) (by kernel_rfl) trivial (fun hHeld => ?_)
        refine wpAnyH_take (i := 0) (oi := _) (v := (.bool false)) rfl (by kernel_rfl) (by kernel_rfl) (by kernel_rfl) (fun _ _ _ h => h) (Or.inl ⟨by rfl, ?_⟩) (by assumption) ?_
        · intro w hSw
          go_simp
          try with_reducible rfl
        try simp only [Act.put, List.getElem_toArray, List.getElem_cons_zero, List.getElem_cons_succ, List.setIfInBounds_toArray, List.set_cons_zero, List.set_cons_succ]
        refine wpAnyH_take (i := 1) (oi := _) (v := (.bool true)) rfl (by kernel_rfl) (by kernel_rfl) (by kernel_rfl) (fun _ _ _ h => h) (Or.inl ⟨by rfl, ?_⟩) (by assumption) ?_
        · intro w hSw
          go_simp
          try with_reducible rfl
        try simp only [Act.put, List.getElem_toArray, List.getElem_cons_zero, List.getElem_cons_succ, List.setIfInBounds_toArray, List.set_cons_zero, List.set_cons_succ]
        refine wpAnyH_take (i := 2) (oi := _) (v := (.bool true)) rfl (by kernel_rfl) (by kernel_rfl) (by kernel_rfl) (fun _ _ _ h => h) (Or.inl ⟨by rfl, ?_⟩) (by assumption) ?_
        · intro w hSw
          go_simp
          try with_reducible rfl
        try simp only [Act.put, List.getElem_toArray, List.getElem_cons_zero, List.getElem_cons_succ, List.setIfInBounds_toArray, List.set_cons_zero, List.set_cons_succ]
        refine wpAnyH_take (i := 3) (oi := _) (v := undef) rfl (by kernel_rfl) (by kernel_rfl) (by kernel_rfl) (fun _ _ _ h => h) (Or.inr ⟨by rfl, rfl⟩) (by assumption) ?_
        try simp only [Act.put, List.getElem_toArray, List.getElem_cons_zero, List.getElem_cons_succ, List.setIfInBounds_toArray, List.set_cons_zero, List.set_cons_succ]
        refine wpAnyH_take (i := 4) (oi := _) (v := undef) rfl (by kernel_rfl) (by kernel_rfl) (by kernel_rfl) (fun _ _ _ h => h) (Or.inr ⟨by rfl, rfl⟩) (by assumption) ?_
        try simp only [Act.put, List.getElem_toArray, List.getElem_cons_zero, List.getElem_cons_succ, List.setIfInBounds_toArray, List.set_cons_zero, List.set_cons_succ]
        refine wpAnyH_take (i := 5) (oi := _) (v := undef) rfl (by kernel_rfl) (by kernel_rfl) (by kernel_rfl) (fun _ _ _ h => h) (Or.inr ⟨by rfl, rfl⟩) (by assumption) ?_
        try simp only [Act.put, List.getElem_toArray, List.getElem_cons_zero, List.getElem_cons_succ, List.setIfInBounds_toArray, List.set_cons_zero, List.set_cons_succ]
        refine wpAnyH_take (i := 6) (oi := _) (v := (.bool true)) rfl (by kernel_rfl) (by kernel_rfl) (by kernel_rfl) (fun _ _ _ h => h) (Or.inl ⟨by rfl, ?_⟩) (by assumption) ?_
        · intro w hSw
          go_simp
          try with_reducible rfl
        try simp only [Act.put, List.getElem_toArray, List.getElem_cons_zero, List.getElem_cons_succ, List.setIfInBounds_toArray, List.set_cons_zero, List.set_cons_succ]
        refine wpAnyH_take (i := 7) (oi := _) (v := (.bool true)) rfl (by kernel_rfl) (by kernel_rfl) (by kernel_rfl) (fun _ _ _ h => h) (Or.inl ⟨by rfl, ?_⟩) (by assumption) ?_
        · intro w hSw
          go_simp
          try with_reducible rfl
        try simp only [Act.put, List.getElem_toArray, List.getElem_cons_zero, List.getElem_cons_succ, List.setIfInBounds_toArray, List.set_cons_zero, List.set_cons_succ]
        refine wpAnyH_take (i := 8) (oi := _) (v := undef) rfl (by kernel_rfl) (by kernel_rfl) (by kernel_rfl) (fun _ _ _ h => h) (Or.inr ⟨by rfl, rfl⟩) (by assumption) ?_
        try simp only [Act.put, List.getElem_toArray, List.getElem_cons_zero, List.getElem_cons_succ, List.setIfInBounds_toArray, List.set_cons_zero, List.set_cons_succ]
        refine wpAnyH_take (i := 9) (oi := _) (v := undef) rfl (by kernel_rfl) (by kernel_rfl) (by kernel_rfl) (fun _ _ _ h => h) (Or.inr ⟨by rfl, rfl⟩) (by assumption) ?_
        try simp only [Act.put, List.getElem_toArray, List.getElem_cons_zero, List.getElem_cons_succ, List.setIfInBounds_toArray, List.set_cons_zero, List.set_cons_succ]
        refine wpAnyH_take (i := 10) (oi := _) (v := undef) rfl (by kernel_rfl) (by kernel_rfl) (by kernel_rfl) (fun _ _ _ h => h) (Or.inr ⟨by rfl, rfl⟩) (by assumption) ?_
        try simp only [Act.put, List.getElem_toArray, List.getElem_cons_zero, List.getElem_cons_succ, List.setIfInBounds_toArray, List.set_cons_zero, List.set_cons_succ]
        refine wpAnyH_take (i := 11) (oi := _) (v := undef) rfl (by kernel_rfl) (by kernel_rfl) (by kernel_rfl) (fun _ _ _ h => h) (Or.inr ⟨by rfl, rfl⟩) (by assumption) ?_
        try simp only [Act.put, List.getElem_toArray, List.getElem_cons_zero, List.getElem_cons_succ, List.setIfInBounds_toArray, List.set_cons_zero, List.set_cons_succ]
        refine wpAnyH_take (i := 12) (oi := _) (v := undef) rfl (by kernel_rfl) (by kernel_rfl) (by kernel_rfl) (fun _ _ _ h => h) (Or.inr ⟨by rfl, rfl⟩) (by assumption) ?_
        try simp only [Act.put, List.getElem_toArray, List.getElem_cons_zero, List.getElem_cons_succ, List.setIfInBounds_toArray, List.set_cons_zero, List.set_cons_succ]
        refine wpAnyH_take (i := 13) (oi := _) (v := undef) rfl (by kernel_rfl) (by kernel_rfl) (by kernel_rfl) (fun _ _ _ h => h) (Or.inr ⟨by rfl, rfl⟩) (by assumption) ?_
        try simp only [Act.put, List.getElem_toArray, List.getElem_cons_zero, List.getElem_cons_succ, List.setIfInBounds_toArray, List.set_cons_zero, List.set_cons_succ]
        refine wpAnyH_take (i := 14) (oi := _) (v := undef) rfl (by kernel_rfl) (by kernel_rfl) (by kernel_rfl) (fun _ _ _ h => h) (Or.inr ⟨by rfl, rfl⟩) (by assumption) ?_
        try simp only [Act.put, List.getElem_toArray, List.getElem_cons_zero, List.getElem_cons_succ, List.setIfInBounds_toArray, List.set_cons_zero, List.set_cons_succ]
        refine wpAnyH_take (i := 15) (oi := _) (v := (.bool true)) rfl (by kernel_rfl) (by kernel_rfl) (by kernel_rfl) (fun _ _ _ h => h) (Or.inl ⟨by rfl, ?_⟩) (by assumption) ?_
        · intro w hSw
          go_simp
          try with_reducible rfl
        try simp only [Act.put, List.getElem_toArray, List.getElem_cons_zero, List.getElem_cons_succ, List.setIfInBounds_toArray, List.set_cons_zero, List.set_cons_succ]
        refine wpAnyH_done (by kernel_rfl) ?_ _
        go_wp2
        exact HP.out _ _ Hfr.out.drew (.inr ⟨Hnot.out, rfl⟩)
      | true =>
        rcases hdn with ⟨rfl, hd⟩ | ⟨rfl, hd⟩
        · by_cases hset : Mk.settled (Mk.insOf xs) com = com
          · have hyes : Mk.MOk l := Hmok2.out.2 ⟨by omega, by have h3 := Hgd.out; rw [Bool.and_eq_true] at h3; exact h3.1, by have h3 := Hgd.out; rw [Bool.and_eq_true] at h3; exact h3.2, hd, hset⟩
            have Hyes := Lib.hid hyes
            rw [hset] at Hset
            clear hyes hset hd
            go_wp2_with fail
            refine wp_region_held_drew (S := fun wx => wx.cell? ⟨a2, 1, none⟩ = some (.int .i64 com)) (by kernel_rfl) c1 (fun hHeld => ?_)
            refine wpAnyH_take (i := 0) (oi := _) (v := (.bool true)) rfl (by kernel_rfl) (by kernel_rfl) (by kernel_rfl) (fun _ _ _ h => h) (Or.inl ⟨by rfl, ?_⟩) (by assumption) ?_
            · intro w hSw
              go_simp
              try with_reducible rfl
            try simp only [Act.put, List.getElem_toArray, List.getElem_cons_zero, List.getElem_cons_succ, List.setIfInBounds_toArray, List.set_cons_zero, List.set_cons_succ]
            refine wpAnyH_take (i := 1) (oi := _) (v := (.bool false)) rfl (by kernel_rfl) (by kernel_rfl) (by kernel_rfl) (fun _ _ _ h => h) (Or.inl ⟨by rfl, ?_⟩) (by assumption) ?_
            · intro w hSw
              go_simp
              try with_reducible rfl
            try simp only [Act.put, List.getElem_toArray, List.getElem_cons_zero, List.getElem_cons_succ, List.setIfInBounds_toArray, List.set_cons_zero, List.set_cons_succ]
            refine wpAnyH_take (i := 2) (oi := _) (v := (.bool false)) rfl (by kernel_rfl) (by kernel_rfl) (by kernel_rfl) (fun _ _ _ h => h) (Or.inl ⟨by rfl, ?_⟩) (by assumption) ?_
            · intro w hSw
              go_simp
              try with_reducible rfl
            try simp only [Act.put, List.getElem_toArray, List.getElem_cons_zero, List.getElem_cons_succ, List.setIfInBounds_toArray, List.set_cons_zero, List.set_cons_succ]
            refine wpAnyH_take (i := 3) (oi := _) (v := ?_) rfl (by kernel_rfl) (by kernel_rfl) (by kernel_rfl) (fun _ _ _ h => h) (Or.inl ⟨by rfl, ?_⟩) (by assumption) ?_
            rotate_left
            · intro w hSw
              go_simp
              try with_reducible rfl
            try simp only [Act.put, List.getElem_toArray, List.getElem_cons_zero, List.getElem_cons_succ, List.setIfInBounds_toArray, List.set_cons_zero, List.set_cons_succ]
            refine wpAnyH_ready (rs := [4]) (by kernel_rfl) (by simp) ?_
            refine AllReadyH.cons (o := _) rfl (fun K hK => ?_) AllReadyH.nil
            go_simp
            go_at_call 31
            refine HD.out.mono ?_
            rintro e w6 ⟨rfl, rfl⟩
            refine hK.out _ _ c1 (fun hHeld => ?_)
            clear hK K
            try simp only [Act.put, List.getElem_toArray, List.getElem_cons_zero, List.getElem_cons_succ, List.setIfInBounds_toArray, List.set_cons_zero, List.set_cons_succ]
            refine wpAnyH_take (i := 5) (oi := _) (v := (.bool false)) rfl (by kernel_rfl) (by kernel_rfl) (by kernel_rfl) (fun _ _ _ h => h) (Or.inl ⟨by rfl, ?_⟩) (by assumption) ?_
            · intro w hSw
              go_simp
              try with_reducible rfl
            try simp only [Act.put, List.getElem_toArray, List.getElem_cons_zero, List.getElem_cons_succ, List.setIfInBounds_toArray, List.set_cons_zero, List.set_cons_succ]
            refine wpAnyH_take (i := 6) (oi := _) (v := (.bool false)) rfl (by kernel_rfl) (by kernel_rfl) (by kernel_rfl) (fun _ _ _ h => h) (Or.inl ⟨by rfl, ?_⟩) (by assumption) ?_
            · intro w hSw
              go_simp
              try with_reducible rfl
            try simp only [Act.put, List.getElem_toArray, List.getElem_cons_zero, List.getElem_cons_succ, List.setIfInBounds_toArray, List.set_cons_zero, List.set_cons_succ]
            refine wpAnyH_take (i := 7) (oi := _) (v := (.bool false)) rfl (by kernel_rfl) (by kernel_rfl) (by kernel_rfl) (fun _ _ _ h => h) (Or.inl ⟨by rfl, ?_⟩) (by assumption) ?_
            · intro w hSw
              go_simp
              try with_reducible rfl
            try simp only [Act.put, List.getElem_toArray, List.getElem_cons_zero, List.getElem_cons_succ, List.setIfInBounds_toArray, List.set_cons_zero, List.set_cons_succ]
            refine wpAnyH_take (i := 8) (oi := _) (v := ?_) rfl (by kernel_rfl) (by kernel_rfl) (by kernel_rfl) (fun _ _ _ h => h) (Or.inl ⟨by rfl, ?_⟩) (by assumption) ?_
            rotate_left
            · intro w hSw
              go_simp
              try with_reducible rfl
            try simp only [Act.put, List.getElem_toArray, List.getElem_cons_zero, List.getElem_cons_succ, List.setIfInBounds_toArray, List.set_cons_zero, List.set_cons_succ]
            refine wpAnyH_take (i := 10) (oi := _) (v := ?_) rfl (by kernel_rfl) (by kernel_rfl) (by kernel_rfl) (fun _ _ _ h => h) (Or.inl ⟨by rfl, ?_⟩) (by assumption) ?_
            rotate_left
            · intro w hSw
              go_simp
              try with_reducible rfl
            try simp only [Act.put, List.getElem_toArray, List.getElem_cons_zero, List.getElem_cons_succ, List.setIfInBounds_toArray, List.set_cons_zero, List.set_cons_succ]
            refine wpAnyH_take (i := 11) (oi := _) (v := ?_) rfl (by kernel_rfl) (by kernel_rfl) (by kernel_rfl) (fun _ _ _ h => h) (Or.inl ⟨by rfl, ?_⟩) (by assumption) ?_
            rotate_left
            · intro w hSw
              go_simp
              try with_reducible rfl
            try simp only [Act.put, List.getElem_toArray, List.getElem_cons_zero, List.getElem_cons_succ, List.setIfInBounds_toArray, List.set_cons_zero, List.set_cons_succ]
            refine wpAnyH_take (i := 12) (oi := _) (v := ?_) rfl (by kernel_rfl) (by kernel_rfl) (by kernel_rfl) (fun _ _ _ h => h) (Or.inl ⟨by rfl, ?_⟩) (by assumption) ?_
            rotate_left
            · intro w hSw
              go_simp
              try with_reducible rfl
            try simp only [Act.put, List.getElem_toArray, List.getElem_cons_zero, List.getElem_cons_succ, List.setIfInBounds_toArray, List.set_cons_zero, List.set_cons_succ]
            refine wpAnyH_take (i := 13) (oi := _) (v := ?_) rfl (by kernel_rfl) (by kernel_rfl) (by kernel_rfl) (fun _ _ _ h => h) (Or.inl ⟨by rfl, ?_⟩) (by assumption) ?_
            rotate_left
            · intro w hSw
              go_simp
              try with_reducible rfl
            try simp only [Act.put, List.getElem_toArray, List.getElem_cons_zero, List.getElem_cons_succ, List.setIfInBounds_toArray, List.set_cons_zero, List.set_cons_succ]
            refine wpAnyH_ready (rs := [9]) (by kernel_rfl) (by simp) ?_
            refine AllReadyH.cons (o := _) rfl (fun K hK => ?_) AllReadyH.nil
            go_simp
            go_at_call 79
            refine Hset.out.mono ?_
            rintro e w7 ⟨rfl, hf7⟩
            refine hK.out _ _ ((Htrk.out.drew.fr hf7 (by simp)).c1) (fun hHeld => ?_)
            clear hK K
            try simp only [Act.put, List.getElem_toArray, List.getElem_cons_zero, List.getElem_cons_succ, List.setIfInBounds_toArray, List.set_cons_zero, List.set_cons_succ]
            have Hf7 := Lib.hid (Hfr.out.drew.trans hf7)
            have Htrk7 := Lib.hid (Htrk.out.drew.fr hf7 (by simp))
            clear hf7
            refine wpAnyH_take (i := 14) (oi := _) (v := (.bool false)) rfl (by kernel_rfl) (by kernel_rfl) (by kernel_rfl) (fun _ _ _ h => h) (Or.inl ⟨by rfl, ?_⟩) (by assumption) ?_
            · intro w hSw
              go_simp
              try with_reducible rfl
            try simp only [Act.put, List.getElem_toArray, List.getElem_cons_zero, List.getElem_cons_succ, List.setIfInBounds_toArray, List.set_cons_zero, List.set_cons_succ]
            refine wpAnyH_take (i := 15) (oi := _) (v := (.bool false)) rfl (by kernel_rfl) (by kernel_rfl) (by kernel_rfl) (fun _ _ _ h => h) (Or.inl ⟨by rfl, ?_⟩) (by assumption) ?_
            · intro w hSw
              go_simp
              try with_reducible rfl
            try simp only [Act.put, List.getElem_toArray, List.getElem_cons_zero, List.getElem_cons_succ, List.setIfInBounds_toArray, List.set_cons_zero, List.set_cons_succ]
            refine wpAnyH_done (by kernel_rfl) ?_ _
            go_wp2
            exact HP.out _ _ Hf7.out (.inl ⟨a2, A, c, rfl, Hbase.out, Hyes.out, Htrk7.out⟩)
          · have hnot : ¬ Mk.MOk l := fun h => hset (Hmok2.out.1 h).2.2.2.2
            have Hnot := Lib.hid hnot
            obtain ⟨sv, hsv⟩ : ∃ sv, sv = Mk.settled (Mk.insOf xs) com := ⟨_, rfl⟩
            rw [← hsv] at Hset hset
            have hsb : (sv == com) = false := beq_eq_false_iff_ne.2 hset
            clear hnot hsv hd
            go_wp2_with fail
            refine wp_region_held_drew (S := fun wx => wx.cell? ⟨a2, 1, none⟩ = some (.int .i64 com)) (by kernel_rfl) c1 (fun hHeld => ?_)
            refine wpAnyH_take (i := 0) (oi := _) (v := (.bool true)) rfl (by kernel_rfl) (by kernel_rfl) (by kernel_rfl) (fun _ _ _ h => h) (Or.inl ⟨by rfl, ?_⟩) (by assumption) ?_
            · intro w hSw
              go_simp
              try with_reducible rfl
            try simp only [Act.put, List.getElem_toArray, List.getElem_cons_zero, List.getElem_cons_succ, List.setIfInBounds_toArray, List.set_cons_zero, List.set_cons_succ]
            refine wpAnyH_take (i := 1) (oi := _) (v := (.bool false)) rfl (by kernel_rfl) (by kernel_rfl) (by kernel_rfl) (fun _ _ _ h => h) (Or.inl ⟨by rfl, ?_⟩) (by assumption) ?_
            · intro w hSw
              go_simp
              try with_reducible rfl
            try simp only [Act.put, List.getElem_toArray, List.getElem_cons_zero, List.getElem_cons_succ, List.setIfInBounds_toArray, List.set_cons_zero, List.set_cons_succ]
            refine wpAnyH_take (i := 2) (oi := _) (v := (.bool false)) rfl (by kernel_rfl) (by kernel_rfl) (by kernel_rfl) (fun _ _ _ h => h) (Or.inl ⟨by rfl, ?_⟩) (by assumption) ?_
            · intro w hSw
              go_simp
              try with_reducible rfl
            try simp only [Act.put, List.getElem_toArray, List.getElem_cons_zero, List.getElem_cons_succ, List.setIfInBounds_toArray, List.set_cons_zero, List.set_cons_succ]
            refine wpAnyH_take (i := 3) (oi := _) (v := ?_) rfl (by kernel_rfl) (by kernel_rfl) (by kernel_rfl) (fun _ _ _ h => h) (Or.inl ⟨by rfl, ?_⟩) (by assumption) ?_
            rotate_left
            · intro w hSw
              go_simp
              try with_reducible rfl
            try simp only [Act.put, List.getElem_toArray, List.getElem_cons_zero, List.getElem_cons_succ, List.setIfInBounds_toArray, List.set_cons_zero, List.set_cons_succ]
            refine wpAnyH_ready (rs := [4]) (by kernel_rfl) (by simp) ?_
            refine AllReadyH.cons (o := _) rfl (fun K hK => ?_) AllReadyH.nil
            go_simp
            go_at_call 31
            refine HD.out.mono ?_
            rintro e w6 ⟨rfl, rfl⟩
            refine hK.out _ _ c1 (fun hHeld => ?_)
            clear hK K
            try simp only [Act.put, List.getElem_toArray, List.getElem_cons_zero, List.getElem_cons_succ, List.setIfInBounds_toArray, List.set_cons_zero, List.set_cons_succ]
            refine wpAnyH_take (i := 5) (oi := _) (v := (.bool false)) rfl (by kernel_rfl) (by kernel_rfl) (by kernel_rfl) (fun _ _ _ h => h) (Or.inl ⟨by rfl, ?_⟩) (by assumption) ?_
            · intro w hSw
              go_simp
              try with_reducible rfl
            try simp only [Act.put, List.getElem_toArray, List.getElem_cons_zero, List.getElem_cons_succ, List.setIfInBounds_toArray, List.set_cons_zero, List.set_cons_succ]
            refine wpAnyH_take (i := 6) (oi := _) (v := (.bool false)) rfl (by kernel_rfl) (by kernel_rfl) (by kernel_rfl) (fun _ _ _ h => h) (Or.inl ⟨by rfl, ?_⟩) (by assumption) ?_
            · intro w hSw
              go_simp
              try with_reducible rfl
            try simp only [Act.put, List.getElem_toArray, List.getElem_cons_zero, List.getElem_cons_succ, List.setIfInBounds_toArray, List.set_cons_zero, List.set_cons_succ]
            refine wpAnyH_take (i := 7) (oi := _) (v := (.bool false)) rfl (by kernel_rfl) (by kernel_rfl) (by kernel_rfl) (fun _ _ _ h => h) (Or.inl ⟨by rfl, ?_⟩) (by assumption) ?_
            · intro w hSw
              go_simp
              try with_reducible rfl
            try simp only [Act.put, List.getElem_toArray, List.getElem_cons_zero, List.getElem_cons_succ, List.setIfInBounds_toArray, List.set_cons_zero, List.set_cons_succ]
            refine wpAnyH_take (i := 8) (oi := _) (v := ?_) rfl (by kernel_rfl) (by kernel_rfl) (by kernel_rfl) (fun _ _ _ h => h) (Or.inl ⟨by rfl, ?_⟩) (by assumption) ?_
            rotate_left
            · intro w hSw
              go_simp
              try with_reducible rfl
            try simp only [Act.put, List.getElem_toArray, List.getElem_cons_zero, List.getElem_cons_succ, List.setIfInBounds_toArray, List.set_cons_zero, List.set_cons_succ]
            refine wpAnyH_take (i := 10) (oi := _) (v := ?_) rfl (by kernel_rfl) (by kernel_rfl) (by kernel_rfl) (fun _ _ _ h => h) (Or.inl ⟨by rfl, ?_⟩) (by assumption) ?_
            rotate_left
            · intro w hSw
              go_simp
              try with_reducible rfl
            try simp only [Act.put, List.getElem_toArray, List.getElem_cons_zero, List.getElem_cons_succ, List.setIfInBounds_toArray, List.set_cons_zero, List.set_cons_succ]
            refine wpAnyH_take (i := 11) (oi := _) (v := ?_) rfl (by kernel_rfl) (by kernel_rfl) (by kernel_rfl) (fun _ _ _ h => h) (Or.inl ⟨by rfl, ?_⟩) (by assumption) ?_
            rotate_left
            · intro w hSw
              go_simp
              try with_reducible rfl
            try simp only [Act.put, List.getElem_toArray, List.getElem_cons_zero, List.getElem_cons_succ, List.setIfInBounds_toArray, List.set_cons_zero, List.set_cons_succ]
            refine wpAnyH_take (i := 12) (oi := _) (v := ?_) rfl (by kernel_rfl) (by kernel_rfl) (by kernel_rfl) (fun _ _ _ h => h) (Or.inl ⟨by rfl, ?_⟩) (by assumption) ?_
            rotate_left
            · intro w hSw
              go_simp
              try with_reducible rfl
            try simp only [Act.put, List.getElem_toArray, List.getElem_cons_zero, List.getElem_cons_succ, List.setIfInBounds_toArray, List.set_cons_zero, List.set_cons_succ]
            refine wpAnyH_take (i := 13) (oi := _) (v := ?_) rfl (by kernel_rfl) (by kernel_rfl) (by kernel_rfl) (fun _ _ _ h => h) (Or.inl ⟨by rfl, ?_⟩) (by assumption) ?_
            rotate_left
            · intro w hSw
              go_simp
              try with_reducible rfl
            try simp only [Act.put, List.getElem_toArray, List.getElem_cons_zero, List.getElem_cons_succ, List.setIfInBounds_toArray, List.set_cons_zero, List.set_cons_succ]
            refine wpAnyH_ready (rs := [9]) (by kernel_rfl) (by simp) ?_
            refine AllReadyH.cons (o := _) rfl (fun K hK => ?_) AllReadyH.nil
            go_simp
            go_at_call 79
            refine Hset.out.mono ?_
            rintro e w7 ⟨rfl, hf7⟩
            refine hK.out _ _ ((Htrk.out.drew.fr hf7 (by simp)).c1) (fun hHeld => ?_)
            clear hK K
            try simp only [Act.put, List.getElem_toArray, List.getElem_cons_zero, List.getElem_cons_succ, List.setIfInBounds_toArray, List.set_cons_zero, List.set_cons_succ]
            have Hf7 := Lib.hid (Hfr.out.drew.trans hf7)
            clear hf7
            refine wpAnyH_take (i := 14) (oi := _) (v := (.bool true)) rfl (by kernel_rfl) (by kernel_rfl) (by kernel_rfl) (fun _ _ _ h => h) (Or.inl ⟨by rfl, ?_⟩) (by assumption) ?_
            · intro w hSw
              go_simp
              try with_reducible rfl
            try simp only [Act.put, List.getElem_toArray, List.getElem_cons_zero, List.getElem_cons_succ, List.setIfInBounds_toArray, List.set_cons_zero, List.set_cons_succ]
            refine wpAnyH_take (i := 15) (oi := _) (v := (.bool true)) rfl (by kernel_rfl) (by kernel_rfl) (by kernel_rfl) (fun _ _ _ h => h) (Or.inl ⟨by rfl, ?_⟩) (by assumption) ?_
            · intro w hSw
              go_simp
              try with_reducible rfl
            try simp only [Act.put, List.getElem_toArray, List.getElem_cons_zero, List.getElem_cons_succ, List.setIfInBounds_toArray, List.set_cons_zero, List.set_cons_succ]
            refine wpAnyH_done (by kernel_rfl) ?_ _
            go_wp2
            exact HP.out _ _ Hf7.out (.inr ⟨Hnot.out, rfl⟩)
        · have hnot : ¬ Mk.MOk l := fun h => hd (Hmok2.out.1 h).2.2.2.1
          have Hnot := Lib.hid hnot
          clear hnot hd
          go_wp2_with fail
          refine wp_region_held_drew (S := fun _ => True) (by kernel_rfl) trivial (fun hHeld => ?_)
          refine wpAnyH_take (i := 0) (oi := _) (v := (.bool true)) rfl (by kernel_rfl) (by kernel_rfl) (by kernel_rfl) (fun _ _ _ h => h) (Or.inl ⟨by rfl, ?_⟩) (by assumption) ?_
          · intro w hSw
            go_simp
            try with_reducible rfl
          try simp only [Act.put, List.getElem_toArray, List.getElem_cons_zero, List.getElem_cons_succ, List.setIfInBounds_toArray, List.set_cons_zero, List.set_cons_succ]
          refine wpAnyH_take (i := 1) (oi := _) (v := (.bool false)) rfl (by kernel_rfl) (by kernel_rfl) (by kernel_rfl) (fun _ _ _ h => h) (Or.inl ⟨by rfl, ?_⟩) (by assumption) ?_
          · intro w hSw
            go_simp
            try with_reducible rfl
          try simp only [Act.put, List.getElem_toArray, List.getElem_cons_zero, List.getElem_cons_succ, List.setIfInBounds_toArray, List.set_cons_zero, List.set_cons_succ]
          refine wpAnyH_take (i := 2) (oi := _) (v := (.bool false)) rfl (by kernel_rfl) (by kernel_rfl) (by kernel_rfl) (fun _ _ _ h => h) (Or.inl ⟨by rfl, ?_⟩) (by assumption) ?_
          · intro w hSw
            go_simp
            try with_reducible rfl
          try simp only [Act.put, List.getElem_toArray, List.getElem_cons_zero, List.getElem_cons_succ, List.setIfInBounds_toArray, List.set_cons_zero, List.set_cons_succ]
          refine wpAnyH_take (i := 3) (oi := _) (v := ?_) rfl (by kernel_rfl) (by kernel_rfl) (by kernel_rfl) (fun _ _ _ h => h) (Or.inl ⟨by rfl, ?_⟩) (by assumption) ?_
          rotate_left
          · intro w hSw
            go_simp
            try with_reducible rfl
          try simp only [Act.put, List.getElem_toArray, List.getElem_cons_zero, List.getElem_cons_succ, List.setIfInBounds_toArray, List.set_cons_zero, List.set_cons_succ]
          refine wpAnyH_ready (rs := [4]) (by kernel_rfl) (by simp) ?_
          refine AllReadyH.cons (o := _) rfl (fun K hK => ?_) AllReadyH.nil
          go_simp
          go_at_call 31
          refine HD.out.mono ?_
          rintro e w6 ⟨rfl, rfl⟩
          refine hK.out _ _ trivial (fun hHeld => ?_)
          clear hK K
          try simp only [Act.put, List.getElem_toArray, List.getElem_cons_zero, List.getElem_cons_succ, List.setIfInBounds_toArray, List.set_cons_zero, List.set_cons_succ]
          refine wpAnyH_take (i := 5) (oi := _) (v := (.bool true)) rfl (by kernel_rfl) (by kernel_rfl) (by kernel_rfl) (fun _ _ _ h => h) (Or.inl ⟨by rfl, ?_⟩) (by assumption) ?_
          · intro w hSw
            go_simp
            try with_reducible rfl
          try simp only [Act.put, List.getElem_toArray, List.getElem_cons_zero, List.getElem_cons_succ, List.setIfInBounds_toArray, List.set_cons_zero, List.set_cons_succ]
          refine wpAnyH_take (i := 6) (oi := _) (v := (.bool true)) rfl (by kernel_rfl) (by kernel_rfl) (by kernel_rfl) (fun _ _ _ h => h) (Or.inl ⟨by rfl, ?_⟩) (by assumption) ?_
          · intro w hSw
            go_simp
            try with_reducible rfl
          try simp only [Act.put, List.getElem_toArray, List.getElem_cons_zero, List.getElem_cons_succ, List.setIfInBounds_toArray, List.set_cons_zero, List.set_cons_succ]
          refine wpAnyH_take (i := 7) (oi := _) (v := (.bool true)) rfl (by kernel_rfl) (by kernel_rfl) (by kernel_rfl) (fun _ _ _ h => h) (Or.inl ⟨by rfl, ?_⟩) (by assumption) ?_
          · intro w hSw
            go_simp
            try with_reducible rfl
          try simp only [Act.put, List.getElem_toArray, List.getElem_cons_zero, List.getElem_cons_succ, List.setIfInBounds_toArray, List.set_cons_zero, List.set_cons_succ]
          refine wpAnyH_take (i := 8) (oi := _) (v := undef) rfl (by kernel_rfl) (by kernel_rfl) (by kernel_rfl) (fun _ _ _ h => h) (Or.inr ⟨by rfl, rfl⟩) (by assumption) ?_
          try simp only [Act.put, List.getElem_toArray, List.getElem_cons_zero, List.getElem_cons_succ, List.setIfInBounds_toArray, List.set_cons_zero, List.set_cons_succ]
          refine wpAnyH_take (i := 9) (oi := _) (v := undef) rfl (by kernel_rfl) (by kernel_rfl) (by kernel_rfl) (fun _ _ _ h => h) (Or.inr ⟨by rfl, rfl⟩) (by assumption) ?_
          try simp only [Act.put, List.getElem_toArray, List.getElem_cons_zero, List.getElem_cons_succ, List.setIfInBounds_toArray, List.set_cons_zero, List.set_cons_succ]
          refine wpAnyH_take (i := 10) (oi := _) (v := undef) rfl (by kernel_rfl) (by kernel_rfl) (by kernel_rfl) (fun _ _ _ h => h) (Or.inr ⟨by rfl, rfl⟩) (by assumption) ?_
          try simp only [Act.put, List.getElem_toArray, List.getElem_cons_zero, List.getElem_cons_succ, List.setIfInBounds_toArray, List.set_cons_zero, List.set_cons_succ]
          refine wpAnyH_take (i := 11) (oi := _) (v := undef) rfl (by kernel_rfl) (by kernel_rfl) (by kernel_rfl) (fun _ _ _ h => h) (Or.inr ⟨by rfl, rfl⟩) (by assumption) ?_
          try simp only [Act.put, List.getElem_toArray, List.getElem_cons_zero, List.getElem_cons_succ, List.setIfInBounds_toArray, List.set_cons_zero, List.set_cons_succ]
          refine wpAnyH_take (i := 12) (oi := _) (v := undef) rfl (by kernel_rfl) (by kernel_rfl) (by kernel_rfl) (fun _ _ _ h => h) (Or.inr ⟨by rfl, rfl⟩) (by assumption) ?_
          try simp only [Act.put, List.getElem_toArray, List.getElem_cons_zero, List.getElem_cons_succ, List.setIfInBounds_toArray, List.set_cons_zero, List.set_cons_succ]
          refine wpAnyH_take (i := 13) (oi := _) (v := undef) rfl (by kernel_rfl) (by kernel_rfl) (by kernel_rfl) (fun _ _ _ h => h) (Or.inr ⟨by rfl, rfl⟩) (by assumption) ?_
          try simp only [Act.put, List.getElem_toArray, List.getElem_cons_zero, List.getElem_cons_succ, List.setIfInBounds_toArray, List.set_cons_zero, List.set_cons_succ]
          refine wpAnyH_take (i := 14) (oi := _) (v := undef) rfl (by kernel_rfl) (by kernel_rfl) (by kernel_rfl) (fun _ _ _ h => h) (Or.inr ⟨by rfl, rfl⟩) (by assumption) ?_
          try simp only [Act.put, List.getElem_toArray, List.getElem_cons_zero, List.getElem_cons_succ, List.setIfInBounds_toArray, List.set_cons_zero, List.set_cons_succ]
          refine wpAnyH_take (i := 15) (oi := _) (v := (.bool true)) rfl (by kernel_rfl) (by kernel_rfl) (by kernel_rfl) (fun _ _ _ h => h) (Or.inl ⟨by rfl, ?_⟩) (by assumption) ?_
          · intro w hSw
            go_simp
            try with_reducible rfl
          try simp only [Act.put, List.getElem_toArray, List.getElem_cons_zero, List.getElem_cons_succ, List.setIfInBounds_toArray, List.set_cons_zero, List.set_cons_succ]
          refine wpAnyH_done (by kernel_rfl) ?_ _
          go_wp2
          exact HP.out _ _ Hfr.out.drew (.inr ⟨Hnot.out, rfl⟩)

end Go.Proofs.YthajdajhclpaaaaDoor