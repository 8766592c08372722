/- (Group).all: what its regions do. -/
import Derived.Test.YtmlhecfhhhebnaaBf
import Derived.Test.YtmlhecfhhhebnaaRw
import Derived.Test.YtmlhecfhhhebnaaFlow
import Derived.Carry
namespace Go.Proofs.Ytmlhecfhhhebnaa
open Go.RowKit
attribute [local go_sem] Oper.semAt_some

def IsMap (w : World) (k : Nat) : Prop := ∃ es c, w.heap[k]? = some (.map es c)
/-- Kept from block H on while the table is made: the maps alone may turn, from empty to that of the first element. -/
structure ExtR (H : Nat) (a b : World) : Prop where
  low : ∀ k, k < H → k < a.heap.size → b.heap[k]? = a.heap[k]?
  sm : Sm (fun k => ¬ IsMap a k) a b
  m0 : ∀ k, MapE a k [] → MapE b k [] ∨ MapE b k [oneE]
  m1 : ∀ k, MapE a k [oneE] → MapE b k [oneE]
theorem MapE.isMap {w : World} {k : Nat} {L : List (List Int)} (h : MapE w k L) : IsMap w k := by obtain ⟨es, c, hb, _⟩ := h; exact ⟨es, c, hb⟩
theorem ExtR.refl (H : Nat) (a : World) : ExtR H a a := ⟨fun _ _ _ => rfl, Sm.refl _ a, fun _ h => .inl h, fun _ h => h⟩
theorem ExtR.trans {H : Nat} {a b c : World} (h : ExtR H a b) (h' : ExtR H b c) : ExtR H a c :=
  ⟨fun k hk hl => (h'.low k hk (Nat.lt_of_lt_of_le hl h.sm.size)).trans (h.low k hk hl), ⟨h'.sm.os.trans h.sm.os, h'.sm.tape.trans h.sm.tape, h'.sm.output.trans h.sm.output, Nat.le_trans h.sm.size h'.sm.size, fun k hk hlt => by
    have e := h.sm.block k hk hlt
    have hk' : ¬ IsMap b k := fun ⟨es, cl, hm⟩ => hk ⟨es, cl, by rw [← e]; exact hm⟩
    exact (h'.sm.block k hk' (Nat.lt_of_lt_of_le hlt h.sm.size)).trans e⟩,
   fun k hm => (h.m0 k hm).elim (h'.m0 k) (fun h2 => .inr (h'.m1 k h2)), fun k hm => h'.m1 k (h.m1 k hm)⟩
theorem MapE.below {B : Nat} {w w' : World} {b : Nat} {L : List (List Int)} (h : MapE w b L) (hb : Below B w w') (hlt : b < B) : MapE w' b L := by
  obtain ⟨es, clock, hm, he⟩ := h
  exact ⟨es, clock, (hb.block b hlt).trans hm, he⟩
theorem ExtR.of_below {H : Nat} {a b : World} (h : Below a.heap.size a b) : ExtR H a b :=
  ⟨fun k _ hl => h.block k hl, Sm.of_below h, fun _ hm => .inl (hm.below h hm.lt), fun _ hm => hm.below h hm.lt⟩
theorem ExtR.alloc (H : Nat) (a : World) (o : Obj) : ExtR H a (a.alloc o) := ExtR.of_below ((Below.refl _ _).alloc (Nat.le_refl _) _)
theorem ExtR.held {H : Nat} {a b : World} (h : ExtR H a b) {g : Nat} {t : TypeId} {l : List Value} (hh : Held a g t l) : Held b g t l :=
  hh.sm h.sm fun ⟨es, c, hm⟩ => by
    have h1 : a.heap[g]? = some (.cells l.toArray t (0, 0)) := hh
    rw [h1] at hm; cases hm
theorem mapE_new (w : World) : MapE (w.alloc (.map #[] 0)) w.heap.size [] := ⟨#[], 0, heap_alloc_new w _, rfl⟩
theorem mapE_nodup (x : List Int) : [x].Nodup := by simp
/-- The first element is put in, again perhaps. -/
theorem mapE_one {H : Nat} {w : World} {b : Nat} (hHb : H ≤ b) (h : MapE w b [] ∨ MapE w b [oneE]) :
    ∃ w', (Instr.mapUpdate 78 (.map (some b)) (.agg (cs8 oneE).toArray) (.int .i64 0)).run Try.prog w = .ok () w' ∧ MapE w' b [oneE] ∧ ExtR H w w' := by
  have hput : ∀ w', (∀ k, k ≠ b → k < w.heap.size → w'.heap[k]? = w.heap[k]?) → IsMap w b → MapE w' b [oneE] → w'.os = w.os → w'.tape = w.tape → w'.output = w.output → w'.heap.size = w.heap.size → ExtR H w w' := fun w' hk hi hm e1 e2 e3 e4 =>
    ⟨fun k hkH hlt => hk k (by omega) hlt, ⟨e1, e2, e3, by omega, fun k hn hlt => hk k (fun e => hn (e ▸ hi)) hlt⟩, fun k hmk => by
      by_cases e : k = b
      · subst e; exact .inr hm
      · obtain ⟨es, c, hb, he⟩ := hmk
        exact .inl ⟨es, c, (hk k e (Array.getElem?_eq_some_iff.1 hb).1).trans hb, he⟩, fun k hmk => by
      by_cases e : k = b
      · subst e; exact hm
      · obtain ⟨es, c, hb, he⟩ := hmk
        exact ⟨es, c, (hk k e (Array.getElem?_eq_some_iff.1 hb).1).trans hb, he⟩⟩
  rcases h with h | h
  · obtain ⟨w', hrun, hm, hs, hz⟩ := h.add (by simp) (by simp) elt_one (by simp)
    exact ⟨w', hrun, hm, hput w' (fun k hk hlt => hs.block k hk hlt) h.isMap hm hs.os hs.tape hs.output hz⟩
  · have hall : ∀ l ∈ [oneE], Elt l := fun l hl => by rw [List.mem_singleton.1 hl]; exact elt_one
    obtain ⟨es, clock, hb, hc, hf, he⟩ := h.find hall (mapE_nodup _) elt_one
    have ht : Try.prog.underlying 78 = some (.map 113 3) := Try.underlying78
    rcases hf with ⟨hm, _⟩ | ⟨_, hf⟩
    · exact absurd (List.mem_singleton.2 rfl) hm
    · obtain ⟨kl, hkl⟩ := key_elem elt_one
      have hlen : es.toList.length = 1 := by have := congrArg List.length he; simpa using this
      obtain ⟨e0, hes⟩ := List.length_eq_one_iff.1 hlen
      have hes' : es = #[e0] := by cases es; simp at hes; rw [hes]
      subst hes'
      have hk : e0.key = .agg (cs8 oneE).toArray := by have := congrArg (List.map Prod.fst) he; simpa using this
      have hi0 : [oneE].idxOf oneE = 0 := by simp
      rw [hi0] at hf
      have hst := law_elem.stays w hkl
      refine ⟨{ w with heap := w.heap.setIfInBounds b (.map #[{ e0 with key := .agg (cs8 oneE).toArray, val := .int .i64 0 }] clock) }, ?_, ?_, ?_⟩
      · simp [Instr.mapUpdate, run_underlying ht, MapKept.run_getObj_map hb, hc, hf, hk, hst, MapKept.run_setObj_map _ hb, Result.andThen]
      · refine ⟨#[{ e0 with key := .agg (cs8 oneE).toArray, val := .int .i64 0 }], clock, ?_, ?_⟩
        · have hlt := (Array.getElem?_eq_some_iff.1 hb).1
          simp [hlt]
        · simp
      · refine hput _ (fun k hk _ => by simp [Ne.symm hk]) h.isMap ?_ rfl rfl rfl (by simp)
        refine ⟨#[{ e0 with key := .agg (cs8 oneE).toArray, val := .int .i64 0 }], clock, ?_, ?_⟩
        · have hlt := (Array.getElem?_eq_some_iff.1 hb).1
          simp [hlt]
        · simp

end Go.Proofs.Ytmlhecfhhhebnaa
