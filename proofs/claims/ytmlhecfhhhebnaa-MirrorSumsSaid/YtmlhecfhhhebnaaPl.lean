/- Plain lemmas on lists and numbers. No Go in sight. -/
namespace Go.Proofs.Ytmlhecfhhhebnaa

/-- What a loop over indexes and elements gathers. -/
def sel {α β : Type} (f : Nat → α → Option β) (l : List α) : List β := l.zipIdx.filterMap fun p => f p.2 p.1

theorem take_succ' {α : Type} (l : List α) (k : Nat) (h : k < l.length) : l.take (k + 1) = l.take k ++ [l[k]] := by
  rw [List.take_succ_eq_append_getElem h]

theorem sel_take_succ {α β : Type} (f : Nat → α → Option β) (l : List α) (k : Nat) (h : k < l.length) :
    sel f (l.take (k + 1)) = sel f (l.take k) ++ (f k l[k]).toList := by
  unfold sel
  rw [take_succ' l k h, List.zipIdx_append, List.filterMap_append]
  congr 1
  have : 0 + (l.take k).length = k := by simp; omega
  simp only [List.zipIdx_cons, List.zipIdx_nil, this]
  cases hf : f k l[k] <;> simp [hf]

theorem sel_length_le {α β : Type} (f : Nat → α → Option β) (l : List α) : (sel f l).length ≤ l.length := by
  unfold sel
  exact Nat.le_trans (List.length_filterMap_le _ _) (by simp)

theorem sel_all {α β : Type} (f : Nat → α → Option β) (l : List α) : sel f (l.take l.length) = sel f l := by rw [List.take_length]

theorem sel_nil {α β : Type} (f : Nat → α → Option β) : sel f ([] : List α) = [] := rfl

theorem sel_some_at {α β : Type} (g : α → β) (l : List α) : ∀ n, (l.zipIdx n).filterMap (fun p => some (g p.1)) = l.map g := by
  induction l with
  | nil => intro n; rfl
  | cons x l ih => intro n; simp [ih (n + 1)]
theorem sel_some {α β : Type} (g : α → β) (l : List α) : sel (fun _ x => some (g x)) l = l.map g := sel_some_at g l 0

theorem ne_nil_of_lt {α : Type} {l : List α} {k : Nat} (h : k < l.length) : l ≠ [] := by
  intro e; rw [e] at h; simp at h

theorem map_take_succ {α β : Type} (f : α → β) (l : List α) (k : Nat) (h : k < l.length) : (l.take (k + 1)).map f = (l.take k).map f ++ [f l[k]] := by
  rw [take_succ' l k h, List.map_append]; rfl

end Go.Proofs.Ytmlhecfhhhebnaa
