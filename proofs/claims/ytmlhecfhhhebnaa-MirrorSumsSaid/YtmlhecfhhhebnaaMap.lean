/- The map from elements to their numbers. -/
import Derived.Test.YtmlhecfhhhebnaaThen
import Derived.Maps.OwnSet
import Derived.DeepKeys4
namespace Go.Proofs.Ytmlhecfhhhebnaa
open Go.RowKit

theorem mapM_some {α β : Type} (f : α → Option β) (g : α → β) : ∀ l : List α, (∀ i ∈ l, f i = some (g i)) → l.mapM f = some (l.map g)
  | [], _ => rfl
  | x :: l, h => by
    rw [List.mapM_cons, h x List.mem_cons_self, mapM_some f g l fun i hi => h i (List.mem_cons_of_mem _ hi)]
    rfl
theorem under_elem : Try.prog.underlying 113 = some (.array 24 111) := Try.underlying113
theorem cells_i8 : Try.prog.cellsOf 111 = 1 := by kernel_rfl
theorem cells_elem : Try.prog.cellsOf 113 = 24 := by kernel_rfl
theorem keyt_elem : Try.prog.keyType 113 = true := by kernel_rfl
theorem key_elem {l : List Int} (h : Elt l) : ∃ kl, keyOf Try.prog 113 (.agg (cs8 l).toArray) = some kl := by
  have hin : ∀ d, ∀ i ∈ List.range 24, Try.prog.keyLits (d + 1) 111 (((cs8 l).drop (i * Try.prog.cellsOf 111)).take (Try.prog.cellsOf 111)) = some [.int .i8 (l.getD i 0)] := by
    intro d i hi
    have hi := List.mem_range.1 hi
    have hil : i < l.length := by rw [h.len]; exact hi
    have hm := List.getElem_mem hil
    have e1 : ((cs8 l).drop (i * 1)).take 1 = [.int .i8 (l.getD i 0)] := by
      rw [Nat.mul_one, List.drop_eq_getElem_cons (by rw [cs8_length]; exact hil)]
      simp [cs8, List.getD, List.getElem?_eq_getElem hil]
    have e2 : l.getD i 0 = l[i] := by simp [List.getD, List.getElem?_eq_getElem hil]
    have hwf : (Lit.int .i8 (l.getD i 0)).wf = true := by
      rw [e2]
      have := h.lo _ hm
      have := h.hi _ hm
      simp [Lit.wf, IntKind.min, IntKind.max, IntKind.signed, IntKind.bits]
      omega
    rw [cells_i8, e1]
    unfold Program.keyLits
    rw [Try.underlying111]
    simp only
    rw [if_pos ⟨trivial, hwf⟩]
  have hf : (Value.agg (cs8 l).toArray).formed Try.prog 113 = true := by
    unfold Value.formed
    rw [under_elem, cells_elem]
    simp [cs8_length, h.len]
  have hk : ∀ d, Try.prog.keyLits (d + 1 + 1) 113 (cs8 l) = some ((List.range 24).map fun i => [Lit.int .i8 (l.getD i 0)]).flatten := by
    intro d
    unfold Program.keyLits
    rw [under_elem]
    simp only
    rw [if_pos (by rw [cells_elem, cs8_length, h.len]), mapM_some _ _ _ (hin d)]
    rfl
  have hsz : Try.prog.types.size = (Try.prog.types.size - 1) + 1 := by kernel_rfl
  unfold keyOf
  rw [under_elem]
  simp only
  rw [keyt_elem, hf]
  simp only [Bool.and_self, if_true, Value.cells]
  rw [hsz, hk]
  exact ⟨_, rfl⟩
theorem law_elem : WideMaps.KeyLaw Try.prog 113 :=
  deep_law_laid (m := 2) (by kernel_rfl) (by decide) (of_decide_eq_true (by kernel_rfl)) (by kernel_rfl) (by kernel_rfl)

/-- Block b is the map of just these elements to their numbers. -/
def MapE (w : World) (b : Nat) (L : List (List Int)) : Prop :=
  ∃ es clock, w.heap[b]? = some (.map es clock) ∧ es.toList.map (fun e => (e.key, e.val)) = L.zipIdx.map fun p => (Value.agg (cs8 p.1).toArray, Value.int .i64 (p.2 : Nat))
theorem MapE.lt {w : World} {b : Nat} {L : List (List Int)} (h : MapE w b L) : b < w.heap.size := by
  obtain ⟨es, clock, hb, _⟩ := h
  exact (Array.getElem?_eq_some_iff.1 hb).1
theorem MapE.sm {S : Nat → Prop} {w w' : World} {b : Nat} {L : List (List Int)} (h : MapE w b L) (hs : Sm S w w') (hS : S b) : MapE w' b L := by
  obtain ⟨es, clock, hb, he⟩ := h
  exact ⟨es, clock, (hs.block b hS (Array.getElem?_eq_some_iff.1 hb).1).trans hb, he⟩
theorem MapE.alloc {w : World} {b : Nat} {L : List (List Int)} (h : MapE w b L) (o : Obj) : MapE (w.alloc o) b L := by
  obtain ⟨es, clock, hb, he⟩ := h
  exact ⟨es, clock, (Below.heap_alloc w o b (Array.getElem?_eq_some_iff.1 hb).1).trans hb, he⟩
theorem cs8_inj {a b : List Int} (h : (cs8 a).toArray = (cs8 b).toArray) : a = b := by
  have h2 : cs8 a = cs8 b := by have := congrArg Array.toList h; simpa using this
  clear h
  induction a generalizing b with
  | nil => cases b with
    | nil => rfl
    | cons y b => simp [cs8] at h2
  | cons x a ih => cases b with
    | nil => simp [cs8] at h2
    | cons y b =>
      have h3 : x = y ∧ cs8 a = cs8 b := by simpa [cs8] using h2
      rw [h3.1, ih h3.2]
theorem zipIdx_at {α : Type} (l : List α) (j : Nat) (p : α × Nat) (h : l.zipIdx[j]? = some p) : p.2 = j ∧ l[j]? = some p.1 := by
  rw [List.getElem?_zipIdx] at h
  cases hj : l[j]? with
  | none => rw [hj] at h; cases h
  | some x => rw [hj] at h; cases h; exact ⟨by simp, rfl⟩
theorem idxOf_at {α : Type} [BEq α] [LawfulBEq α] {l : List α} (hn : l.Nodup) {j : Nat} {x : α} (h : l[j]? = some x) : l.idxOf x = j := by
  obtain ⟨hj, rfl⟩ := List.getElem?_eq_some_iff.1 h
  exact hn.idxOf_getElem j hj
/-- What is found. -/
theorem MapE.find {w : World} {b : Nat} {L : List (List Int)} (h : MapE w b L) (hL : ∀ l ∈ L, Elt l) (hn : L.Nodup) {x : List Int} (hx : Elt x) :
    ∃ es clock, w.heap[b]? = some (.map es clock) ∧ (∀ em, (Instr.checkKey em 10000 113 (.agg (cs8 x).toArray)).run Try.prog w = .ok () w) ∧
      ((x ∉ L ∧ (Instr.findKey 113 (.agg (cs8 x).toArray) es.toList).run Try.prog w = .ok none w) ∨ (x ∈ L ∧ (Instr.findKey 113 (.agg (cs8 x).toArray) es.toList).run Try.prog w = .ok (some (L.idxOf x, .int .i64 ((L.idxOf x : Nat) : Int))) w)) ∧
      es.toList.map (fun e => (e.key, e.val)) = L.zipIdx.map fun p => (Value.agg (cs8 p.1).toArray, Value.int .i64 (p.2 : Nat)) := by
  obtain ⟨es, clock, hb, he⟩ := h
  obtain ⟨kl, hkl⟩ := key_elem hx
  have hent : ∀ (j : Nat) (e : MapEntry), es.toList[j]? = some e → ∃ l, L[j]? = some l ∧ e.key = .agg (cs8 l).toArray ∧ e.val = .int .i64 (j : Nat) := by
    intro j e hj
    have h1 : (es.toList.map (fun e => (e.key, e.val)))[j]? = some (e.key, e.val) := by rw [List.getElem?_map, hj]; rfl
    rw [he, List.getElem?_map] at h1
    cases hz : L.zipIdx[j]? with
    | none => rw [hz] at h1; cases h1
    | some p =>
      rw [hz] at h1
      obtain ⟨e1, e2⟩ := zipIdx_at L j p hz
      have h2 := Option.some.inj h1
      have h3 := congrArg Prod.fst h2
      have h4 := congrArg Prod.snd h2
      simp only at h3 h4
      exact ⟨p.1, e2, h3.symm, by rw [← h4, e1]⟩
  refine ⟨es, clock, hb, fun em => law_elem.check w em hkl, ?_, he⟩
  rcases law_elem.find w hkl es.toList (fun e hm => by
    obtain ⟨j, hj⟩ := List.mem_iff_getElem?.1 hm
    obtain ⟨l, hl, hk, _⟩ := hent j e hj
    rw [hk]
    exact key_elem (hL l (List.mem_of_getElem? hl))) with ⟨h1, h2⟩ | ⟨j, e0, h1, h2, h3⟩
  · refine .inl ⟨fun hm => ?_, h1⟩
    obtain ⟨j, hj⟩ := List.mem_iff_getElem?.1 hm
    have hlen : es.toList.length = L.length := by have := congrArg List.length he; simpa using this
    have hjl : j < es.toList.length := by rw [hlen]; exact (List.getElem?_eq_some_iff.1 hj).1
    obtain ⟨l, hl, hk, _⟩ := hent j _ (List.getElem?_eq_getElem hjl)
    rw [hj] at hl
    cases hl
    exact h2 _ (List.getElem_mem hjl) hk
  · obtain ⟨l, hl, hk, hv⟩ := hent j e0 h2
    rw [h3] at hk
    injection hk with hk
    obtain rfl := cs8_inj hk
    refine .inr ⟨List.mem_of_getElem? hl, ?_⟩
    rw [h1, hv, idxOf_at hn hl]
theorem MapE.look {w : World} {b : Nat} {L : List (List Int)} (h : MapE w b L) (hL : ∀ l ∈ L, Elt l) (hn : L.Nodup) {x : List Int} (hx : Elt x) :
    (Instr.lookup 78 (.map (some b)) (.agg (cs8 x).toArray) true).run Try.prog w = .ok (.tuple #[.int .i64 (if x ∈ L then ((L.idxOf x : Nat) : Int) else 0), .bool (decide (x ∈ L))]) w := by
  obtain ⟨es, clock, hb, hc, hf, _⟩ := h.find hL hn hx
  have hz : (zeroValue 3).run Try.prog w = .ok (.int .i64 0) w := by kernel_rfl
  have ht : Try.prog.underlying 78 = some (.map 113 3) := Try.underlying78
  rcases hf with ⟨hm, hf⟩ | ⟨hm, hf⟩
  · simp [Instr.lookup, run_underlying ht, MapKept.run_getObj_map hb, hc, hf, hz, Result.andThen, hm]
  · simp [Instr.lookup, run_underlying ht, MapKept.run_getObj_map hb, hc, hf, Result.andThen, hm]
theorem MapE.add {w : World} {b : Nat} {L : List (List Int)} (h : MapE w b L) (hL : ∀ l ∈ L, Elt l) (hn : L.Nodup) {x : List Int} (hx : Elt x) (hm : x ∉ L) :
    ∃ w', (Instr.mapUpdate 78 (.map (some b)) (.agg (cs8 x).toArray) (.int .i64 (L.length : Nat))).run Try.prog w = .ok () w' ∧ MapE w' b (L ++ [x]) ∧ Sm (fun k => k ≠ b) w w' ∧ w'.heap.size = w.heap.size := by
  obtain ⟨es, clock, hb, hc, hf, he⟩ := h.find hL hn hx
  have ht : Try.prog.underlying 78 = some (.map 113 3) := Try.underlying78
  rcases hf with ⟨_, hf⟩ | ⟨hm', _⟩
  · refine ⟨_, by simp [Instr.mapUpdate, run_underlying ht, MapKept.run_getObj_map hb, hc, hf, MapKept.run_setObj_map _ hb, Result.andThen]; rfl, ?_, ?_, ?_⟩
    · refine ⟨es.push { key := .agg (cs8 x).toArray, val := .int .i64 (L.length : Nat), born := clock }, clock + 1, ?_, ?_⟩
      · have hlt := (Array.getElem?_eq_some_iff.1 hb).1
        simp [hlt]
      · rw [Array.toList_push, List.map_append, he, List.zipIdx_append, List.map_append]
        simp
    · exact ⟨rfl, rfl, rfl, by simp, fun k hk _ => by simp [Ne.symm hk]⟩
    · simp
  · exact absurd hm' hm
end Go.Proofs.Ytmlhecfhhhebnaa
