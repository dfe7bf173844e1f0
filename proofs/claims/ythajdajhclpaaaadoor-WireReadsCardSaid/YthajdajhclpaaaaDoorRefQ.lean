/- The reference of layer 1: a reader: Open, fail, Left, Done, Tail, ahead, number, close, Num, Int, Text. -/
import Derived.Test.YthajdajhclpaaaaDoorRefB
import Derived.Test.YthajdajhclpaaaaDoorWireI
namespace Go.Proofs.YthajdajhclpaaaaDoor
open Go.RowKit Go.Shelf Wr

/-- The reference's reader at block a. -/
def RdX (w : World) (a : Nat) (r : Rd) : Prop := Row w a 85 [.string ⟨r.1.toArray⟩, .bool r.2]
theorem RdX.lt {w : World} {a : Nat} {r : Rd} (h : RdX w a r) : a < w.heap.size := Row.lt h
theorem RdX.fr {w w' : World} {a : Nat} {r : Rd} {S : List Nat} (h : RdX w a r) (hf : Fr S w w') (hn : a ∉ S) : RdX w' a r := Row.fr h hf hn
theorem RdX.c0 {w : World} {a : Nat} {r : Rd} (h : RdX w a r) : w.cell? ⟨a, 0, none⟩ = some (.string ⟨r.1.toArray⟩) := by rw [Row.cell h]; rfl
theorem RdX.c1 {w : World} {a : Nat} {r : Rd} (h : RdX w a r) : w.cell? ⟨a, 1, none⟩ = some (.bool r.2) := by rw [Row.cell h]; rfl
theorem RdX.z {w : World} {a : Nat} {r : Rd} (h : RdX w a r) (i : Nat) : w.frozen? ⟨a, i, none⟩ = false := Row.frozen h i
theorem RdX.set0 {w : World} {a : Nat} {r : Rd} (h : RdX w a r) (l : List UInt8) (s : ByteArray) (hs : s = ⟨l.toArray⟩) : RdX (w.setCell ⟨a, 0, none⟩ (.string s)) a (l, r.2) := by
  subst hs
  exact Row.set h 0 _
theorem RdX.set1 {w : World} {a : Nat} {r : Rd} (h : RdX w a r) (b : Bool) : RdX (w.setCell ⟨a, 1, none⟩ (.bool b)) a (r.1, b) := Row.set h 1 _

theorem xopen_any (l : List UInt8) (w : World) : Calls Tryd.prog 34 #[.string ⟨l.toArray⟩] w fun e w' => ∃ a, e = .returned (.pointer (some ⟨a, 0, none⟩)) ∧ w.heap.size ≤ a ∧ RdX w' a (l, false) ∧ Fr [] w w' := by
  go_enter Tryd.func34, Tryd.ntmps34
  go_wp2
  go_ret
  exact ⟨_, rfl, Nat.le_refl _, Row.new' _ _ _, by (repeat' (first | with_reducible exact Fr.refl _ _ | with_reducible assumption | with_reducible apply Fr.drew | with_reducible apply Fr.drewN | with_reducible apply Fr.alloc | (with_reducible refine Fr.set ?_ (.inr (by first | exact Nat.le_refl _ | exact Nat.le_succ _ | (simp; done) | (simp; omega))) _)))⟩
theorem xfail_any (a : Nat) (r : Rd) (w : World) (h : RdX w a r) : Calls Tryd.prog 74 #[.pointer (some ⟨a, 0, none⟩)] w fun e w' => e = .returned (.int .i64 0) ∧ RdX w' a dead ∧ Fr [a] w w' := by
  have c0 := h.c0
  have c1 := h.c1
  have z0 := h.z 0
  have z1 := h.z 1
  have H := Lib.hid h
  clear h
  go_enter Tryd.func74, Tryd.ntmps74
  go_wp2
  go_ret
  exact ⟨rfl, (H.out.set0 [] _ rfl).set1 true, Fr.set (Fr.set (Fr.refl _ _) (.inl (by simp)) _) (.inl (by simp)) _⟩
theorem xleft_any (a : Nat) (r : Rd) (w : World) (h : RdX w a r) (hl : r.1.length ≤ 1099511627776) : Calls Tryd.prog 42 #[.pointer (some ⟨a, 0, none⟩)] w fun e w' => e = .returned (.int .i64 r.1.length) ∧ w' = w := by
  have c0 := h.c0
  have hs := size_l r.1
  clear h
  go_enter Tryd.func42, Tryd.ntmps42
  go_wp2
  go_ret
  exact ⟨rfl, rfl⟩
theorem xdone_any (a : Nat) (r : Rd) (w : World) (h : RdX w a r) : Calls Tryd.prog 43 #[.pointer (some ⟨a, 0, none⟩)] w fun e w' => e = .returned (.bool (!r.2 && decide (r.1 = []))) ∧ w' = w := by
  have c0 := h.c0
  have c1 := h.c1
  clear h
  obtain ⟨l, b⟩ := r
  cases b
  · go_enter Tryd.func43, Tryd.ntmps43
    go_wp2
    go_ret
    exact ⟨congrArg (fun b => Ending.returned (.bool b)) (isEmpty_dec l), rfl⟩
  · go_enter Tryd.func43, Tryd.ntmps43
    go_wp2
    go_ret
    exact ⟨rfl, rfl⟩
theorem xtail_any (a : Nat) (r : Rd) (w : World) (h : RdX w a r) : Calls Tryd.prog 45 #[.pointer (some ⟨a, 0, none⟩)] w fun e w' => e = .returned (.string ⟨r.1.toArray⟩) ∧ RdX w' a ([], r.2) ∧ Fr [a] w w' := by
  have c0 := h.c0
  have z0 := h.z 0
  have H := Lib.hid h
  clear h
  go_enter Tryd.func45, Tryd.ntmps45
  go_wp2
  go_ret
  exact ⟨rfl, H.out.set0 [] _ rfl, Fr.set (Fr.refl _ _) (.inl (by simp)) _⟩

/-- What a number's reading says, from where the byte stands. -/
theorem rnum_at (e : UInt8) (he : Wr.Ends e) (l : List UInt8) (b : Bool) (i : Nat) (hi : l[i]? = some e) (hn : e ∉ l.take i) (least : Int) :
    (∀ n, IsNum (l.take i) n → least ≤ n → rnum e least (l, b) = (n, (l.drop (i + 1), b))) ∧ ((∀ n, ¬ IsNum (l.take i) n) → rnum e least (l, b) = (0, dead)) := by
  obtain ⟨hil, hie⟩ := List.getElem?_eq_some_iff.1 hi
  have hs : l = l.take i ++ e :: l.drop (i + 1) := by
    conv => lhs; rw [← List.take_append_drop i l, List.drop_eq_getElem_cons hil, hie]
  obtain ⟨h1, _, h3⟩ := numR_at e he l (l.drop (i + 1)) i hs hn hil least
  refine ⟨fun n hn hl => ?_, fun hno => ?_⟩
  · unfold rnum
    simp only
    rw [h1 n hn hl]
  · unfold rnum
    simp only
    rw [h3 hno]
theorem rnum_not (e : UInt8) (least : Int) (l : List UInt8) (b : Bool) (h : ∀ i, i < 21 → l[i]? ≠ some e) : rnum e least (l, b) = (0, dead) := by
  unfold rnum
  simp only
  rw [numR_absent e least l h]
theorem not_take {e : UInt8} {l : List UInt8} {i : Nat} (h : e ∉ l.take i) (j : Nat) (hj : j < i) : l[j]? ≠ some e := fun hc => h (by
  have h2 : (l.take i)[j]? = some e := by rw [List.getElem?_take_of_lt hj]; exact hc
  exact List.mem_of_getElem? h2)

set_option maxRecDepth 100000 in
set_option maxHeartbeats 4000000 in
theorem xahead_any (a : Nat) (l : List UInt8) (b : Bool) (w : World) (h : RdX w a (l, b)) (e : UInt8) (ei : Int) (hei : ei = (e.toNat : Int)) (hE : Wr.Ends e) (hl : l.length ≤ 1000000) :
    Calls Tryd.prog 73 #[.pointer (some ⟨a, 0, none⟩), .int .u8 ei] w fun en w' => en = .returned (.int .i64 (rnum e (-9223372036854775808) (l, b)).1) ∧ RdX w' a (rnum e (-9223372036854775808) (l, b)).2 ∧ Fr [a] w w' := by
  subst hei
  have H := Lib.hid h
  have hal := h.lt
  have hs := size_l l
  have Hat := Lib.hid (fun i hi hn => rnum_at e hE l b i hi hn (-9223372036854775808))
  have Hnot := Lib.hid (rnum_not e (-9223372036854775808) l b)
  clear h
  generalize rnum e (-9223372036854775808) (l, b) = q at *
  go_enter Tryd.func73, Tryd.ntmps73
  go_wp2
  go_loopg [5] l.length (fun gk v5 wr => ∃ i : Nat, v5 = .int .i64 i ∧ i ≤ l.length ∧ i ≤ 21 ∧ gk = l.length - i ∧ e ∉ l.take i ∧ wr = w)
  case atStart => exact ⟨0, rfl, Nat.zero_le _, Nat.zero_le _, rfl, by simp, rfl⟩
  case round =>
    obtain ⟨i, rfl, hi, hi21, rfl, hni, rfl⟩ := hrel
    have Hni := Lib.hid hni
    have c0 : wr.cell? ⟨a, 0, none⟩ = some (.string ⟨l.toArray⟩) := H.out.c0
    have z0 := H.out.z 0
    clear hni
    by_cases hlt : i < l.length
    · obtain ⟨c, hci⟩ : ∃ c, l[i]? = some c := ⟨_, List.getElem?_eq_getElem hlt⟩
      have hgb := getb l i c hci
      have Hci := Lib.hid hci
      clear hci
      by_cases hce : c = e
      · subst hce
        have hAt := Hat.out i Hci.out Hni.out
        have HAt := Lib.hid hAt
        have hsx : (⟨l.toArray⟩ : ByteArray).extract 0 i = ⟨(l.take i).toArray⟩ := ext_take l i
        have hex3 : (⟨l.toArray⟩ : ByteArray).extract (i + 1) l.length = ⟨(l.drop (i + 1)).toArray⟩ := ext_drop l (i + 1) _ rfl
        have Hb := Lib.hid (rback_any (l.take i) (by rw [List.length_take]; omega) wr)
        clear hAt
        generalize l.take i = tx at *
        by_cases h21 : (i : Int) < 21
        all_goals
          go_wp2_with fail
          refine Hb.out.mono ?_
          rintro e' w2 ⟨hf2, ⟨v, hv, rfl⟩ | ⟨hno, v, rfl⟩⟩
          · have hr2 : RdX w2 a (l, b) := H.out.fr hf2 (by simp)
            have hq := HAt.out.1 v hv hv.1.1
            have Hq := Lib.hid hq
            have Hr2 := Lib.hid hr2
            have d0 : w2.cell? ⟨a, 0, none⟩ = some (.string ⟨l.toArray⟩) := hr2.c0
            have dz := hr2.z 0
            have Hf2 := Lib.hid hf2
            clear hq hv hf2 hr2 c0 z0
            go_wp2
            go_ret
            rw [Hq.out]
            exact ⟨rfl, Hr2.out.set0 _ _ rfl, Fr.set (Hf2.out.mono (by simp)) (.inl (by simp)) _⟩
          · have Hq := Lib.hid (HAt.out.2 hno)
            have Hr2 := Lib.hid (H.out.fr hf2 (by simp))
            have Hf2 := Lib.hid hf2
            clear hno hf2
            go_wp2_with fail
            refine (xfail_any a (l, b) _ Hr2.out).mono ?_
            rintro e' w3 ⟨rfl, h3, h4⟩
            have H3 := Lib.hid h3
            have H4 := Lib.hid h4
            clear h3 h4
            go_wp2
            go_ret
            rw [Hq.out]
            exact ⟨rfl, H3.out, (Hf2.out.mono (by simp)).trans H4.out⟩
      · have hne : ((c.toNat : Int) == (e.toNat : Int)) = false := by
          rw [beq_eq_false_iff_ne]
          intro h1
          apply hce
          apply UInt8.toNat_inj.1
          omega
        have hne2 : ((c.toNat : Int) != (e.toNat : Int)) = true := by rw [bne, hne]; rfl
        by_cases h21 : i < 21
        · have h21' : (i : Int) < 21 := by omega
          have hnx : e ∉ l.take (i + 1) := by
            rw [List.take_add_one, List.mem_append, not_or]
            refine ⟨Hni.out, fun hm => ?_⟩
            rw [Hci.out] at hm
            have : e = c := by simpa using hm
            exact hce this.symm
          have Hnx := Lib.hid hnx
          clear hnx
          go_wp2
          go_roundg (l.length - (i + 1))
          case measure => omega
          case rel => exact ⟨i + 1, by go_num, by omega, by omega, rfl, Hnx.out, rfl⟩
        · have h21' : ¬ (i : Int) < 21 := by omega
          have Hq := Lib.hid (Hnot.out (fun j hj => not_take Hni.out j (by omega)))
          go_wp2_with fail
          refine (xfail_any a (l, b) _ H.out).mono ?_
          rintro e' w3 ⟨rfl, h3, h4⟩
          have H3 := Lib.hid h3
          have H4 := Lib.hid h4
          clear h3 h4
          go_wp2
          go_ret
          rw [Hq.out]
          exact ⟨rfl, H3.out, H4.out⟩
    · have hii : i = l.length := by omega
      subst hii
      have Hq := Lib.hid (Hnot.out (fun j hj => by
        rcases Nat.lt_or_ge j l.length with h1 | h1
        · exact not_take Hni.out j h1
        · rw [List.getElem?_eq_none h1]; simp))
      go_wp2_with fail
      refine (xfail_any a (l, b) _ H.out).mono ?_
      rintro e' w3 ⟨rfl, h3, h4⟩
      have H3 := Lib.hid h3
      have H4 := Lib.hid h4
      clear h3 h4
      go_wp2
      go_ret
      rw [Hq.out]
      exact ⟨rfl, H3.out, H4.out⟩

end Go.Proofs.YthajdajhclpaaaaDoor
