/- The plain mathematics of trackers of marks: lists of (mark, idle) and a common mark. -/
namespace Go.Proofs.YthajdajhclpaaaaDoor.Mk

/-- The marks of the inputs that are not idle. -/
def act (ins : List (Int × Bool)) : List Int := (ins.filter fun x => !x.2).map (·.1)
/-- The least number of a list. -/
def least : List Int → Option Int
  | [] => none
  | x :: l => some (l.foldl min x)
/-- The common mark that a tracker should have. -/
def settled (ins : List (Int × Bool)) (com : Int) : Int :=
  match least (act ins) with
  | none => com
  | some n => max n com

theorem min_snoc (x : Int) (l : List Int) (y : Int) : (l ++ [y]).foldl min x = min (l.foldl min x) y := by simp
theorem least_take (l : List Int) (k : Nat) (h : k < l.length) (hk : 0 < k) (m : Int) (hm : least (l.take k) = some m) : least (l.take (k + 1)) = some (min m l[k]) := by
  rw [List.take_succ_eq_append_getElem h]
  cases ht : l.take k with
  | nil => have := congrArg List.length ht; rw [List.length_take, List.length_nil] at this; omega
  | cons x r =>
    rw [ht] at hm
    simp only [least, Option.some.injEq] at hm
    simp only [least, List.cons_append, min_snoc, hm]
theorem act_nil : act [] = [] := rfl
theorem act_snoc (ins : List (Int × Bool)) (x : Int × Bool) : act (ins ++ [x]) = act ins ++ (if x.2 then [] else [x.1]) := by
  unfold act
  rw [List.filter_append, List.map_append]
  rcases x with ⟨m, b⟩
  cases b <;> simp
theorem act_take_succ (ins : List (Int × Bool)) (k : Nat) (h : k < ins.length) : act (ins.take (k + 1)) = act (ins.take k) ++ (if ins[k].2 then [] else [ins[k].1]) := by
  rw [List.take_succ_eq_append_getElem h, act_snoc]
theorem act_len (ins : List (Int × Bool)) : (act ins).length ≤ ins.length := by
  unfold act; rw [List.length_map]; exact List.length_filter_le _ _

end Go.Proofs.YthajdajhclpaaaaDoor.Mk
