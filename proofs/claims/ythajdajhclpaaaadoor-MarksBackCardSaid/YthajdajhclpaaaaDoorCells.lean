/- Where the cells of a slice that came in, or lies elsewhere, are. -/
import Derived.Test.YthajdajhclpaaaaDoorMem
namespace Go.Proofs.YthajdajhclpaaaaDoor
open Go.RowKit

def Came (w : World) (b off : Nat) (cells : List Value) : Prop := b < w.heap.size ∧ ∀ j u, cells[j]? = some u → w.cell? ⟨b, off + j, none⟩ = some u
theorem Came.of_block {w w' : World} {b off : Nat} {cells : List Value} (h : Came w b off cells) (hs : w.heap.size ≤ w'.heap.size) (hb : w'.heap[b]? = w.heap[b]?) : Came w' b off cells :=
  ⟨Nat.lt_of_lt_of_le h.1 hs, fun j u hu => (World.cell?_of_block (a := ⟨b, off + j, none⟩) hb).trans (h.2 j u hu)⟩
theorem Came.below {w w' : World} {b off B : Nat} {cells : List Value} (h : Came w b off cells) (hb : Below B w w') (hB : b < B) : Came w' b off cells := h.of_block hb.size (hb.block b hB)
/-- A slice value of n elements whose cells lie below block B. -/
def SL (B : Nat) (w : World) (v : Value) (n : Nat) (cells : List Value) : Prop := ∃ A c, v = .slice A n c ∧ n ≤ maxLen ∧ (0 < n → ∃ b off, A = some ⟨b, off, none⟩ ∧ b < B ∧ Came w b off cells)
theorem SL.fr {B n : Nat} {w w' : World} {v : Value} {cells : List Value} {S : List Nat} (h : SL B w v n cells) (hf : Fr S w w') (hS : ∀ k, k ∈ S → B ≤ k) : SL B w' v n cells := by
  obtain ⟨A, c, h1, h2, h3⟩ := h
  refine ⟨A, c, h1, h2, fun h0 => ?_⟩
  obtain ⟨b, off, h4, h5, h6⟩ := h3 h0
  exact ⟨b, off, h4, h5, h6.of_block hf.size (hf.block b h6.1 (fun hin => by have := hS b hin; omega))⟩
theorem SL.quiet {B n : Nat} {w w' : World} {v : Value} {cells : List Value} (h : SL B w v n cells) (hf : Fr [] w w') : SL B w' v n cells := h.fr hf (fun k hk => by cases hk)
theorem SL.below {B B' n : Nat} {w w' : World} {v : Value} {cells : List Value} (h : SL B w v n cells) (hb : Below B' w w') (hB : B ≤ B') : SL B w' v n cells := by
  obtain ⟨A, c, h1, h2, h3⟩ := h
  refine ⟨A, c, h1, h2, fun h0 => ?_⟩
  obtain ⟨b, off, h4, h5, h6⟩ := h3 h0
  exact ⟨b, off, h4, h5, h6.below hb (by omega)⟩
theorem SL.up {B B' n : Nat} {w : World} {v : Value} {cells : List Value} (h : SL B w v n cells) (hB : B ≤ B') : SL B' w v n cells := by
  obtain ⟨A, c, h1, h2, h3⟩ := h
  refine ⟨A, c, h1, h2, fun h0 => ?_⟩
  obtain ⟨b, off, h4, h5, h6⟩ := h3 h0
  exact ⟨b, off, h4, by omega, h6⟩
theorem SL.nil (B : Nat) (w : World) (cells : List Value) : SL B w (.slice none 0 0) 0 cells := ⟨none, 0, rfl, Nat.zero_le _, fun h => absurd h (by simp)⟩
/-- A slice that the call made. -/
theorem SL.own {B0 B n : Nat} {w : World} {v : Value} {e : TypeId} {cells : List Value} (h : w.ownsRow B0 e 1 v n cells) (hB : w.heap.size ≤ B) (hn : n ≤ 1000000) : SL B w v n cells := by
  rcases h.2 with ⟨h1, h2⟩ | ⟨g, c, cur, h1, _⟩
  · exact ⟨none, 0, by rw [h1, h2], by omega, fun h0 => by omega⟩
  · subst h1
    have hg := (own_fp h g (by simp [fpv, Value.ownBlock])).2
    exact ⟨_, c, rfl, Nat.le_trans hn (by decide), fun _ => ⟨g, 0, rfl, by omega, hg, fun (i : Nat) (u : Value) hu => by rw [Nat.zero_add]; exact own_cell h i u hu⟩⟩

end Go.Proofs.YthajdajhclpaaaaDoor
