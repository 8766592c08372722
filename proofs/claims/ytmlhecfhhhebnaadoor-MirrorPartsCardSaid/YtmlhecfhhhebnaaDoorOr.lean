/- MirrorOrder: the walk. -/
import Derived.Test.YtmlhecfhhhebnaaDoorLz
namespace Go.Proofs.YtmlhecfhhhebnaaDoor
open Go.RowKit
attribute [local go_sem] Oper.semAt_some

def TrueM (w : World) (e : Ending) (w' : World) : Prop := e = .returned (.bool true) ∧ Below w.heap.size w w'
theorem args3 {w : World} {u v s : Value} {xs ys zs : List Int} (h : Ints w u xs) (h2 : Ints w v ys) (h3 : Ints w s zs) (t : TypeId) {g : Nat} (hg : w.heap.size = g) : Args (w.alloc (.cells #[u, v, s] t)) (.slice (some ⟨g, 0, none⟩) 3 3) [xs, ys, zs] := by
  subst hg
  refine ⟨_, 3, rfl, by simp, by simp, fun _ => ⟨w.heap.size, 0, rfl, by simp, fun i hi => ?_⟩⟩
  have hi2 : i = 0 ∨ i = 1 ∨ i = 2 := by simp at hi; omega
  rcases hi2 with rfl | rfl | rfl
  · exact ⟨u, by simp, h.below ((Below.refl _ _).alloc (Nat.le_refl _) _)⟩
  · exact ⟨v, by simp, h2.below ((Below.refl _ _).alloc (Nat.le_refl _) _)⟩
  · exact ⟨s, by simp, h3.below ((Below.refl _ _).alloc (Nat.le_refl _) _)⟩
theorem chainS {w a b : World} {o : Obj} (hb : Below (w.heap.size + 1) (w.alloc o) a) (h : Below a.heap.size a b) : Below (w.heap.size + 1) (w.alloc o) b :=
  hb.trans (h.mono (by have := hb.size; simpa using this))
theorem chainS0 {w b : World} {o o2 : Obj} (h : Below ((w.alloc o).alloc o2).heap.size ((w.alloc o).alloc o2) b) : Below (w.heap.size + 1) (w.alloc o) b :=
  ((Below.refl _ _).alloc (by simp) o2).trans (h.mono (by simp))
theorem chainE {w b : World} {o : Obj} (h : Below (w.heap.size + 1) (w.alloc o) b) : Below w.heap.size w b :=
  ((Below.refl _ _).alloc (Nat.le_refl _) o).trans (h.mono (by omega))
theorem intsS {w w' : World} {o : Obj} {v : Value} {xs : List Int} (hx : Ints w v xs) (h : Below (w.heap.size + 1) (w.alloc o) w') : Ints w' v xs := hx.below (chainE h)
theorem heldS {w w' : World} {l : List Value} {t : TypeId} (h : Below (w.heap.size + 1) (w.alloc (.cells l.toArray t)) w') : Held w' w.heap.size t l := (Held.made (w := w) (l := l) (t := t) rfl).below h (by omega)
theorem chainLt {w a : World} {o : Obj} (hb : Below (w.heap.size + 1) (w.alloc o) a) : w.heap.size < a.heap.size := by have := hb.size; simp at this; omega

/-- What the law asks of three words. -/
structure OrdP (K n : Nat) (xs ys zs : List Int) (iU iW cU cW : Nat) (is : Bool) : Prop where
  h1 : belG (wordsG K n) (nextG K n) 0 (ix K n xs) = true
  h2 : belG (wordsG K n) (nextG K n) (ix K n xs) ((wordsG K n).length - 1) = true
  h3 : belG (wordsG K n) (nextG K n) (ix K n xs) (ix K n xs) = true
  h4 : belG (wordsG K n) (nextG K n) iU iW = is
  h5 : belG (wordsG K n) (nextG K n) cW cU = is
  h6 : is = true → belG (wordsG K n) (nextG K n) (ix K n ys) (ix K n xs) = true → belG (wordsG K n) (nextG K n) (ix K n ys) (ix K n zs) = true
  h7 : is = true → belG (wordsG K n) (nextG K n) (ix K n zs) (ix K n xs) = true → (wordsG K n).getD (ix K n xs) [] = (wordsG K n).getD (ix K n zs) []
  h8 : is = true → lenX (wordsG K n) (ix K n xs) < lenX (wordsG K n) (ix K n zs) ∨ (wordsG K n).getD (ix K n xs) [] = (wordsG K n).getD (ix K n zs) []
  lU : iU < (wordsG K n).length
  lW : iW < (wordsG K n).length
  mU : cU < (wordsG K n).length
  mW : cW < (wordsG K n).length
  eU : walkX (nextG K n) 0 (natW xs).reverse = iU
  eW : walkX (nextG K n) 0 (natW zs).reverse = iW
  fU : walkX (nextG K n) ((wordsG K n).length - 1) (natW xs) = cU
  fW : walkX (nextG K n) ((wordsG K n).length - 1) (natW zs) = cW
/-- What holds of each number's word. -/
structure TabW (K n : Nat) : Prop where
  wd : ∀ i, i < (wordsG K n).length → wordB (mirs K n) (toI ((wordsG K n).getD i [])) = true
  at' : ∀ i, i < (wordsG K n).length → ix K n (toI ((wordsG K n).getD i [])) = i
theorem word_len {m : Nat} {xs : List Int} (h : wordB m xs = true) : xs.length ≤ 17592186044416 := by have := (word_nat h).2.2; omega
theorem own_lenX {e : TypeId} {B : Nat} {w : World} {v : Value} {W : List (List Nat)} {i : Nat} (h : OwnI e B w v (toI (W.getD i []))) : ∃ a c, v = .slice a (lenX W i) c := by
  obtain ⟨a, c, rfl⟩ := h.form
  exact ⟨a, c, by rw [toI_length]; rfl⟩
theorem EqualM_any (v1 v2 : Value) (xs ys : List Int) (w : World) (h1 : Ints w v1 xs) (h2 : Ints w v2 ys) (b : Bool) (hb : decide (xs = ys) = b) :
    Calls Tryd.prog 12 #[v1, v2] w fun e w' => e = .returned (.bool b) ∧ Below w.heap.size w w' := hb ▸ Equal_any v1 v2 xs ys w h1 h2

end Go.Proofs.YtmlhecfhhhebnaaDoor
