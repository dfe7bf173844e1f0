/- Plain words for layer 35's encoding. No program here. -/
import Derived.Test.YthajdajhclpaaaaDoorWireRd
import Derived.Test.YthajdajhclpaaaaDoorMkPlain
namespace Go.Proofs.YthajdajhclpaaaaDoor.Mk
open Go Wr

def idl (b : Bool) : Int := if b then 1 else 0
def enc1 (x : Int × Bool) : List UInt8 := encInt x.1 ++ encInt (idl x.2)
def encM (ins : List (Int × Bool)) (com : Int) : List UInt8 := encInt com ++ encInt ins.length ++ (ins.map enc1).flatten
/-- Pairs of ints, whatever fails. -/
def rpairs : Nat → Rd → List (Int × Int) × Rd
  | 0, s => ([], s)
  | n + 1, s => (((rint s).1, (rint (rint s).2).1) :: (rpairs n (rint (rint s).2).2).1, (rpairs n (rint (rint s).2).2).2)
def okT (n : Int) : Bool := decide (-1 ≤ n) && decide (n ≤ 1099511627776)
def okPair (x : Int × Int) : Bool := okT x.1 && (decide (x.2 = 0) || decide (x.2 = 1))
def insOf (l : List (Int × Int)) : List (Int × Bool) := l.map fun x => (x.1, decide (x.2 = 1))
/-- What Read finds: the pairs, the common mark, the number, the reader behind it. -/
def mcom (l : List UInt8) : Int := (rint (l, false)).1
def mnum (l : List UInt8) : Int := (rnat (rint (l, false)).2).1
def mprs (l : List UInt8) : List (Int × Int) × Rd := rpairs (mnum l).toNat (rnat (rint (l, false)).2).2
def MOk (l : List UInt8) : Prop := mnum l ≤ 200 ∧ okT (mcom l) = true ∧ (mprs l).1.all okPair = true ∧ (mprs l).2 = ([], false) ∧ settled (insOf (mprs l).1) (mcom l) = mcom l

theorem okT_iff (n : Int) : okT n = true ↔ -1 ≤ n ∧ n ≤ 1099511627776 := by unfold okT; simp
theorem rpairs_dec (n : Nat) (s : Rd) (hb : (rpairs n s).2.2 = false) : s.2 = false ∧ (rpairs n s).1.length = n ∧ s.1 = ((rpairs n s).1.map fun x => encInt x.1 ++ encInt x.2).flatten ++ (rpairs n s).2.1 := by
  induction n generalizing s with
  | zero => exact ⟨hb, rfl, rfl⟩
  | succ n ih =>
    simp only [rpairs] at hb ⊢
    obtain ⟨h1, h2, h3⟩ := ih _ hb
    obtain ⟨d1, d2, _⟩ := reads_int.ofEnc _ h1
    obtain ⟨e1, e2, _⟩ := reads_int.ofEnc _ d1
    refine ⟨e1, by simp [h2], ?_⟩
    conv => lhs; rw [e2, d2, h3]
    simp
theorem rpairs_enc (l : List (Int × Int)) (h : ∀ x, x ∈ l → I64 x.1 ∧ I64 x.2) (r : List UInt8) : rpairs l.length ((l.map fun x => encInt x.1 ++ encInt x.2).flatten ++ r, false) = (l, (r, false)) := by
  induction l with
  | nil => rfl
  | cons x l ih =>
    obtain ⟨h1, h2⟩ := h x (by simp)
    have h3 := ih (fun y hy => h y (by simp [hy]))
    have e1 : (((x :: l).map fun x => encInt x.1 ++ encInt x.2).flatten ++ r) = encInt x.1 ++ (encInt x.2 ++ ((l.map fun x => encInt x.1 ++ encInt x.2).flatten ++ r)) := by simp
    have t1 := reads_int.toEnc x.1 (encInt x.2 ++ ((l.map fun x => encInt x.1 ++ encInt x.2).flatten ++ r)) h1
    have t2 := reads_int.toEnc x.2 ((l.map fun x => encInt x.1 ++ encInt x.2).flatten ++ r) h2
    simp only [List.length_cons, rpairs]
    rw [e1, t1]
    simp only
    rw [t2]
    simp only
    rw [h3]
theorem insOf_enc (l : List (Int × Int)) (h : l.all okPair = true) : (l.map fun x => encInt x.1 ++ encInt x.2) = (insOf l).map enc1 := by
  unfold insOf
  rw [List.map_map]
  apply List.map_congr_left
  intro x hx
  have := List.all_eq_true.1 h x hx
  unfold okPair at this
  simp at this
  unfold enc1 idl
  rcases this.2 with h0 | h0 <;> simp [h0]
/-- A tracker that may be written. -/
structure Fit (ins : List (Int × Bool)) (com : Int) : Prop where
  len : ins.length ≤ 200
  cm : okT com = true
  each : ∀ x, x ∈ ins → okT x.1 = true
  same : settled ins com = com
theorem read_said {l : List UInt8} (h : MOk l) : encM (insOf (mprs l).1) (mcom l) = l ∧ Fit (insOf (mprs l).1) (mcom l) := by
  obtain ⟨h1, h2, h3, h4, h5⟩ := h
  have hb : (mprs l).2.2 = false := by rw [h4]
  unfold mprs at hb
  obtain ⟨d1, d2, d3⟩ := rpairs_dec _ _ hb
  obtain ⟨e1, e2, e3, e4⟩ := rnum_dec 59 0 (rint (l, false)).2 d1
  obtain ⟨f1, f2, _⟩ := reads_int.ofEnc (l, false) e1
  have d3' : (rnat (rint (l, false)).2).2.1 = ((mprs l).1.map fun x => encInt x.1 ++ encInt x.2).flatten := by
    rw [d3]
    show _ ++ (mprs l).2.1 = _
    rw [h4, List.append_nil]
    rfl
  have hn : 0 ≤ mnum l := e3
  have hlen : (mprs l).1.length = (mnum l).toNat := d2
  refine ⟨?_, ⟨?_, h2, ?_, h5⟩⟩
  · unfold encM
    rw [← insOf_enc _ h3, ← d3']
    have hl : ((insOf (mprs l).1).length : Int) = mnum l := by unfold insOf; rw [List.length_map, hlen]; omega
    rw [hl]
    have e2' : (rint (l, false)).2.1 = encInt (mnum l) ++ (rnat (rint (l, false)).2).2.1 := by
      rw [e2]
      unfold encInt
      simp only [List.append_assoc, List.cons_append, List.nil_append]
      rfl
    rw [List.append_assoc, ← e2']
    exact f2.symm
  · unfold insOf
    rw [List.length_map, hlen]
    omega
  · intro x hx
    unfold insOf at hx
    obtain ⟨y, hy, rfl⟩ := List.mem_map.1 hx
    have := List.all_eq_true.1 h3 y hy
    unfold okPair at this
    simp only [Bool.and_eq_true] at this
    exact this.1
theorem okT_i64 {n : Int} (h : okT n = true) : I64 n := by
  have := (okT_iff n).1 h
  unfold I64
  omega
theorem read_enc {ins : List (Int × Bool)} {com : Int} (h : Fit ins com) : MOk (encM ins com) ∧ insOf (mprs (encM ins com)).1 = ins ∧ mcom (encM ins com) = com := by
  have hl := h.len
  have hc := reads_int.toEnc com (encInt ins.length ++ (ins.map enc1).flatten) (okT_i64 h.cm)
  rw [← List.append_assoc] at hc
  have hn : rnat (encInt (ins.length : Int) ++ (ins.map enc1).flatten, false) = ((ins.length : Int), ((ins.map enc1).flatten, false)) := by
    have := rnum_enc 59 ends59 0 (ins.length : Int) ⟨by omega, by omega⟩ (by omega) (ins.map enc1).flatten false
    unfold rnat
    rw [show encInt (ins.length : Int) ++ (ins.map enc1).flatten = Lib.itoa (ins.length : Int) ++ 59 :: (ins.map enc1).flatten by simp [encInt]]
    exact this
  have hp := rpairs_enc (ins.map fun x => (x.1, idl x.2)) (fun y hy => by
    obtain ⟨x, hx, rfl⟩ := List.mem_map.1 hy
    exact ⟨okT_i64 (h.each x hx), by unfold idl I64; split <;> omega⟩) []
  rw [List.length_map, List.append_nil, List.map_map] at hp
  have hp2 : rpairs ins.length ((ins.map enc1).flatten, false) = (ins.map fun x => (x.1, idl x.2), ([], false)) := hp
  have e1 : mcom (encM ins com) = com := by unfold mcom encM; rw [hc]
  have e2 : mnum (encM ins com) = ins.length := by unfold mnum encM; rw [hc]; simp only; rw [hn]
  have e3 : mprs (encM ins com) = (ins.map fun x => (x.1, idl x.2), ([], false)) := by
    unfold mprs
    rw [e2, Int.toNat_natCast]
    unfold encM
    rw [hc]
    simp only
    rw [hn]
    exact hp2
  have e4 : insOf (ins.map fun x => (x.1, idl x.2)) = ins := by
    unfold insOf
    rw [List.map_map]
    conv => rhs; rw [← List.map_id ins]
    apply List.map_congr_left
    intro x _
    obtain ⟨m, b⟩ := x
    cases b <;> simp [idl]
  refine ⟨⟨by rw [e2]; omega, by rw [e1]; exact h.cm, ?_, by rw [e3], by rw [e3, e1]; simp only; rw [e4]; exact h.same⟩, by rw [e3]; exact e4, e1⟩
  rw [e3]
  simp only
  rw [List.all_eq_true]
  intro y hy
  obtain ⟨x, hx, rfl⟩ := List.mem_map.1 hy
  unfold okPair
  simp only [Bool.and_eq_true]
  refine ⟨h.each x hx, ?_⟩
  unfold idl
  cases x.2 <;> simp

end Go.Proofs.YthajdajhclpaaaaDoor.Mk
