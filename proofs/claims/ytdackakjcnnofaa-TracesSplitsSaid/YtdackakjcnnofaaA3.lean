/- One Af Map Rw Pm Ar Gr Ty Ts Ja Sl Lt Bl Cm Gt of the seat's texts, in this order. -/
import Derived.Test.YtdackakjcnnofaaProg
import Derived.Test.YtdackakjcnnofaaA1
import Derived.WalkKit
import Derived.WalkSpells
import Derived.WalkLawsBesides
import Derived.Maps.OwnSet
import Derived.DeepKeys4
import Derived.Maps.AppendAt
import Derived.Test.YtdackakjcnnofaaA2
import Derived.Deep.QuietTactic
import Derived.BigQuiet
import Derived.Deep.Cut
import Derived.Deep.RegionHeld3
import Derived.StillTailTactics
import Derived.Deep.RegionLaw
import Derived.Deep.AppendSrc
import Derived.Laws.IdiomCopy
import Derived.Lib.SliceRun

/- Permutations as the program holds them: arrays of five numbers. -/
namespace Go.Proofs.Ytdackakjcnnofaa
open Go.RowKit

/-- The cells of a permutation. -/
def cs5 (l : List Int) : List Value := l.map (Value.int .i64)
theorem cs5_length (l : List Int) : (cs5 l).length = l.length := by simp [cs5]
theorem cs5_get (l : List Int) (i : Nat) (h : i < l.length) : (cs5 l)[i]? = some (.int .i64 l[i]) := by simp [cs5, List.getElem?_eq_getElem h]
theorem cs5_set (l : List Int) (i : Nat) (x : Int) : (cs5 l).set i (.int .i64 x) = cs5 (l.set i x) := by simp [cs5, List.map_set]
theorem cs5_one (l : List Int) : ∀ v ∈ cs5 l, v.oneCell' = true := fun v hv => by obtain ⟨x, _, rfl⟩ := List.mem_map.1 hv; rfl
theorem infoE : (Try.prog.info? 54).map (·.size) = some 5 := by kernel_rfl
def zeroE : List Int := List.replicate 5 0
theorem cs5_size {l : List Int} (hl : l.length = 5) : (cs5 l).toArray.size = 5 := by simp [cs5_length, hl]
theorem infoL {l : List Int} (hl : l.length = 5) : (Try.prog.info? 54).map (·.size) = some (cs5 l).toArray.size := by rw [infoE, cs5_size hl]
theorem infoLl {l : List Int} (hl : l.length = 5) : (Try.prog.info? 54).map (·.size) = some (cs5 l).length := by rw [infoE, cs5_length, hl]
/-- A permutation's number at an index. -/
theorem run_index_elem (l : List Int) (k : Nat) (x : Int) (hk : k < 5) (hx : (cs5 l)[k]? = some (.int .i64 x)) (w : World) :
    (Instr.index 54 (.agg (cs5 l).toArray) (.int .i64 (k : Nat))).run Try.prog w = .ok (.int .i64 x) w := by
  have hi : (Try.prog.info? 3).map (fun i => i.size) = some 1 := by kernel_rfl
  cases hq : Try.prog.info? 3 with
  | none => rw [hq] at hi; cases hi
  | some i =>
    have hs : i.size = 1 := by rw [hq] at hi; simpa using hi
    simp [Instr.index, asIntOf, run_underlying Try.underlying54, sizeOf, typeInfo, hq, hs, part, isAgg, hx, hk]
/-- A whole permutation is stored over a block. -/
theorem wpl_store_elem {ops : Array Oper} {rest : List Oper} {op : Oper} {a : Act} {w : World} {Q : Exit → Act → World → Prop} (hg : op.guard = none) (x y : Operand) (ho : op.op = .store 54 x y)
    (b : Nat) (l l0 : List Int) (hl : l.length = 5) (hl0 : l0.length = 5) (hx : a.eval x = .pointer (some ⟨b, 0, none⟩)) (hy : a.eval y = .agg (cs5 l).toArray) (h0 : Held w b 54 (cs5 l0))
    (hK : ∀ W, Held W b 54 (cs5 l) → Sm (fun k => k ≠ b) w W → W.heap.size = w.heap.size → wpList Try.prog ops Q rest (a.put op.dst undef) W) : wpList Try.prog ops Q (op :: rest) a w := by
  have ht : w.there b 0 (cs5 l).toArray.size := by
    have := h0.there
    rw [cs5_length, hl0] at this
    rw [cs5_size hl]; exact this
  refine wpList_store_mid hg 54 x y ho b 0 (cs5 l).toArray hx hy ht (infoL hl) (all_oneCell_toArray (cs5_one _)) ?_
  exact hK _ (h0.over (cs5 l) (by rw [cs5_length, cs5_length, hl, hl0])) (Sm.setCells _ _ _ _) (setCells_size _ _ _ _)
/-- A whole permutation is loaded. -/
theorem wpl_load_elem {ops : Array Oper} {rest : List Oper} {op : Oper} {a : Act} {w : World} {Q : Exit → Act → World → Prop} (hg : op.guard = none) (x : Operand) (ho : op.op = .load 54 x)
    (b : Nat) (l : List Int) (hl : l.length = 5) (hx : a.eval x = .pointer (some ⟨b, 0, none⟩)) (h0 : Held w b 54 (cs5 l))
    (hK : wpList Try.prog ops Q rest (a.put op.dst (.agg (cs5 l).toArray)) w) : wpList Try.prog ops Q (op :: rest) a w :=
  wpList_load_mid hg 54 x ho b 0 hx (cs5 l) _ h0.range Try.underlying54 rfl (infoLl hl) hK
/-- A function's one result that lies in memory: a permutation. -/
theorem results_elem {fn : Func} {tmps : Array Value} {w : World} {g : Nat} {l : List Int} (s : Nat) (hfn : fn.results = #[.cell s 54]) (hs : tmps.getD s undef = .pointer (some ⟨g, 0, none⟩)) (h : Held w g 54 (cs5 l)) (hl : l.length = 5) :
    (results fn tmps).run Try.prog w = .ok (.agg (cs5 l).toArray) w := by
  have hr := run_loadVar_mid (P := Try.prog) w g 0 54 (cs5 l) _ h.range Try.underlying54 rfl (by rw [infoE, cs5_length, hl])
  unfold results
  rw [hfn]
  have hs' : tmps[s]?.getD undef = .pointer (some ⟨g, 0, none⟩) := by simpa using hs
  simp [hs', hr, asAddr]
/-- What a permutation's numbers are. -/
structure Elt (l : List Int) : Prop where
  len : l.length = 5
  lo : ∀ x ∈ l, 0 ≤ x
  hi : ∀ x ∈ l, x < 5
theorem elt_get {e : List Int} (he : Elt e) (i : Nat) (hi : i < 5) : ∃ y : Nat, e[i]? = some (y : Int) ∧ e.getD i 0 = y ∧ y < 5 := by
  have hl : i < e.length := by rw [he.len]; exact hi
  have hm := List.getElem_mem hl
  have h1 := he.lo _ hm
  have h2 := he.hi _ hm
  refine ⟨e[i].toNat, ?_, ?_, by omega⟩
  · rw [List.getElem?_eq_getElem hl, Int.toNat_of_nonneg h1]
  · rw [Int.toNat_of_nonneg h1]; simp [List.getD, List.getElem?_eq_getElem hl]
def afterE (e f : List Int) : List Int := f.map fun x => e.getD x.toNat 0
theorem afterE_length (e f : List Int) : (afterE e f).length = f.length := by simp [afterE]
theorem Elt.after {e f : List Int} (he : Elt e) (hf : Elt f) : Elt (afterE e f) := by
  refine ⟨by rw [afterE_length, hf.len], fun x hx => ?_, fun x hx => ?_⟩ <;>
  · obtain ⟨y, hy, rfl⟩ := List.mem_map.1 hx
    have h1 := hf.lo y hy
    have h2 := hf.hi y hy
    obtain ⟨z, -, e2, h3⟩ := elt_get he y.toNat (by omega)
    rw [e2]; omega
end Go.Proofs.Ytdackakjcnnofaa

/- (permutation).after. -/
namespace Go.Proofs.Ytdackakjcnnofaa
open Go.RowKit

def afTo (e f : List Int) (k : Nat) : List Int := (afterE e f).take k ++ List.replicate (5 - k) 0
theorem afTo_zero (e f : List Int) : afTo e f 0 = zeroE := by simp [afTo, zeroE]
theorem afTo_length {e f : List Int} (hf : f.length = 5) (k : Nat) (hk : k ≤ 5) : (afTo e f k).length = 5 := by
  simp [afTo, afterE_length, hf]; omega
theorem afTo_all {e f : List Int} (hf : f.length = 5) : afTo e f 5 = afterE e f := by
  unfold afTo
  rw [List.take_of_length_le (by rw [afterE_length]; omega)]
  simp
theorem afTo_step {e f : List Int} (hf : f.length = 5) (k : Nat) (hk : k < 5) : (afTo e f k).set k (e.getD (f[k]'(by omega)).toNat 0) = afTo e f (k + 1) := by
  have hl : k < (afterE e f).length := by rw [afterE_length]; omega
  have e1 : 5 - k = (5 - (k + 1)) + 1 := by omega
  unfold afTo
  rw [List.take_succ_eq_append_getElem hl, e1, List.replicate_succ, List.set_append_right _ _ (by simp; omega)]
  have e2 : k - (List.take k (afterE e f)).length = 0 := by simp; omega
  rw [e2]
  simp [afterE]

set_option maxRecDepth 100000 in
set_option maxHeartbeats 1000000 in
theorem after_any (e f : List Int) (w : World) (he : Elt e) (hf : Elt f) :
    Calls Try.prog 34 #[.agg (cs5 e).toArray, .agg (cs5 f).toArray] w fun r w' => r = .returned (.agg (cs5 (afterE e f)).toArray) ∧ Below w.heap.size w w' := by
  have infF : (Try.prog.info? 54).map (·.size) = some (cs5 f).length := infoLl hf.len
  have infO : (Try.prog.info? 54).map (·.size) = some (cs5 (afterE e f)).length := infoLl (by rw [afterE_length, hf.len])
  have infA : (Try.prog.info? 54).map (·.size) = some (cs5 (afterE e f)).toArray.size := by rw [infO]; simp
  have HE := Lib.hid he
  have HF := Lib.hid hf
  clear he hf
  go_enter Try.func34, Try.ntmps34
  go_wp2_with (refine wpList_load_mid (by rfl) 54 _ (by rfl) (w.heap.size + 1) 0 (by rfl) (cs5 f) _ (Held.range (by exact ((Held.made (l := cs5 f) (by simp)).alloc _).alloc _)) Try.underlying54 (by rfl) infF ?_)
  go_loopw [9] (fun ix wr => ∃ k : Nat, k ≤ 5 ∧ ix = .int .i64 k ∧ Held wr w.heap.size 54 (cs5 e) ∧ Held wr (w.heap.size + 1 + 1) 54 (cs5 zeroE) ∧ Held wr (w.heap.size + 1 + 1 + 1) 54 (cs5 (afTo e f k)) ∧ Below w.heap.size w wr) (fun ix _ => 5 - (intOf ix).toNat)
  case atStart =>
    refine ⟨0, by omega, rfl, ?_, ?_, ?_, ?_⟩
    · exact (((Held.made (l := cs5 e) (by simp)).alloc _).alloc _).alloc _
    · exact Held.alloc (Held.made (l := cs5 zeroE) (by simp)) _
    · rw [afTo_zero]; exact Held.made (l := cs5 zeroE) (by simp)
    · exact ((((Below.refl _ _).alloc (Nat.le_refl _) _).alloc (by simp) _).alloc (by simp; omega) _).alloc (by simp; omega) _
  case round =>
    obtain ⟨k, hk, rfl, h0, h1, h2, hb⟩ := hrel
    by_cases hlt : k < 5
    · have hki : (k : Int) < 5 := by omega
      obtain ⟨x, hx, -, hxl⟩ := elt_get HF.out k hlt
      have hst := afTo_step (e := e) HF.out.len k hlt
      have hkf : k < f.length := by rw [HF.out.len]; exact hlt
      have hxk : f[k] = (x : Int) := by
        rw [List.getElem?_eq_getElem hkf] at hx; exact Option.some.inj hx
      rw [hxk, Int.toNat_natCast] at hst
      have hax := run_index_elem f k x hlt (by rw [cs5_get f k hkf, hxk])
      have hc := h2.at (cs5_get (afTo e f k) k (by rw [afTo_length HF.out.len k hk]; exact hlt))
      have hf := h2.free k
      obtain ⟨y, hy, hyd, hyl⟩ := elt_get HE.out x hxl
      rw [hyd] at hst
      have hcy := h0.at (i := x) (v := .int .i64 y) (by simp [cs5, hy])
      have hxi : (x : Int) < 5 := by omega
      have HX := Lib.hid hst
      have H0 := Lib.hid h0
      have H1 := Lib.hid h1
      have H2 := Lib.hid h2
      have HB := Lib.hid hb
      clear h0 h1 h2 hb hx hxk hst hyd hy
      go_wp2
      go_roundw
      case rel =>
        refine ⟨k + 1, by omega, by go_num, H0.out.far (by omega) _ _, H1.out.far (by omega) _ _, ?_, HB.out.setCell (by simp; omega) _⟩
        rw [← HX.out, ← cs5_set]
        exact H2.out.put k _
      case measure => simp [intOf]; omega
    · obtain rfl : k = 5 := by omega
      rw [afTo_all HF.out.len] at h2
      have HTH := Lib.hid (show wr.there (w.heap.size + 1 + 1) 0 (cs5 (afterE e f)).toArray.size by have := h1.there; simpa [cs5_length, afterE_length, HF.out.len, zeroE] using this)
      have H1 := Lib.hid h1
      have H2 := Lib.hid h2
      have HB := Lib.hid hb
      clear h0 h1 h2 hb
      go_wp2_with (first
        | (refine wpList_load_mid (by rfl) 54 _ (by rfl) (w.heap.size + 1 + 1 + 1) 0 (by rfl) (cs5 (afterE e f)) _ H2.out.range Try.underlying54 (by rfl) infO ?_)
        | (refine wpList_store_mid (by rfl) 54 _ _ (by rfl) (w.heap.size + 1 + 1) 0 (cs5 (afterE e f)).toArray (by rfl) (by rfl) HTH.out infA (all_oneCell_toArray (cs5_one _)) ?_))
      exact bodyPost_ret (results_elem 4 Try.results34 (by rfl) (H1.out.over (cs5 (afterE e f)) (by rw [cs5_length, cs5_length, afterE_length, HF.out.len]; rfl)) (by rw [afterE_length, HF.out.len])) rfl ⟨rfl, below_setCells _ (by omega) _ _ _ HB.out⟩
end Go.Proofs.Ytdackakjcnnofaa

/- The map from elements to their numbers. -/
namespace Go.Proofs.Ytdackakjcnnofaa
open Go.RowKit

theorem mapM_some {α β : Type} (f : α → Option β) (g : α → β) : ∀ l : List α, (∀ i ∈ l, f i = some (g i)) → l.mapM f = some (l.map g)
  | [], _ => rfl
  | x :: l, h => by
    rw [List.mapM_cons, h x List.mem_cons_self, mapM_some f g l fun i hi => h i (List.mem_cons_of_mem _ hi)]
    rfl
theorem under_elem : Try.prog.underlying 54 = some (.array 5 3) := Try.underlying54
theorem cells_i8 : Try.prog.cellsOf 3 = 1 := by kernel_rfl
theorem cells_elem : Try.prog.cellsOf 54 = 5 := by kernel_rfl
theorem keyt_elem : Try.prog.keyType 54 = true := by kernel_rfl
theorem key_elem {l : List Int} (h : Elt l) : ∃ kl, keyOf Try.prog 54 (.agg (cs5 l).toArray) = some kl := by
  have hin : ∀ d, ∀ i ∈ List.range 5, Try.prog.keyLits (d + 1) 3 (((cs5 l).drop (i * Try.prog.cellsOf 3)).take (Try.prog.cellsOf 3)) = some [.int .i64 (l.getD i 0)] := by
    intro d i hi
    have hi := List.mem_range.1 hi
    have hil : i < l.length := by rw [h.len]; exact hi
    have hm := List.getElem_mem hil
    have e1 : ((cs5 l).drop (i * 1)).take 1 = [.int .i64 (l.getD i 0)] := by
      rw [Nat.mul_one, List.drop_eq_getElem_cons (by rw [cs5_length]; exact hil)]
      simp [cs5, List.getD, List.getElem?_eq_getElem hil]
    have e2 : l.getD i 0 = l[i] := by simp [List.getD, List.getElem?_eq_getElem hil]
    have hwf : (Lit.int .i64 (l.getD i 0)).wf = true := by
      rw [e2]
      have := h.lo _ hm
      have := h.hi _ hm
      simp [Lit.wf, IntKind.min, IntKind.max, IntKind.signed, IntKind.bits]
      omega
    rw [cells_i8, e1]
    unfold Program.keyLits
    rw [Try.underlying3]
    simp only
    rw [if_pos ⟨trivial, hwf⟩]
  have hf : (Value.agg (cs5 l).toArray).formed Try.prog 54 = true := by
    unfold Value.formed
    rw [under_elem, cells_elem]
    simp [cs5_length, h.len]
  have hk : ∀ d, Try.prog.keyLits (d + 1 + 1) 54 (cs5 l) = some ((List.range 5).map fun i => [Lit.int .i64 (l.getD i 0)]).flatten := by
    intro d
    unfold Program.keyLits
    rw [under_elem]
    simp only
    rw [if_pos (by rw [cells_elem, cs5_length, h.len]), mapM_some _ _ _ (hin d)]
    rfl
  have hsz : Try.prog.types.size = (Try.prog.types.size - 1) + 1 := by kernel_rfl
  unfold keyOf
  rw [under_elem]
  simp only
  rw [keyt_elem, hf]
  simp only [Bool.and_self, if_true, Value.cells]
  rw [hsz, hk]
  exact ⟨_, rfl⟩
theorem law_elem : WideMaps.KeyLaw Try.prog 54 :=
  deep_law_laid (m := 2) (by kernel_rfl) (by decide) (of_decide_eq_true (by kernel_rfl)) (by kernel_rfl) (by kernel_rfl)

/-- Block b is the map of just these elements to their numbers. -/
def MapE (w : World) (b : Nat) (L : List (List Int)) : Prop :=
  ∃ es clock, w.heap[b]? = some (.map es clock) ∧ es.toList.map (fun e => (e.key, e.val)) = L.zipIdx.map fun p => (Value.agg (cs5 p.1).toArray, Value.int .i64 (p.2 : Nat))
theorem MapE.lt {w : World} {b : Nat} {L : List (List Int)} (h : MapE w b L) : b < w.heap.size := by
  obtain ⟨es, clock, hb, _⟩ := h
  exact (Array.getElem?_eq_some_iff.1 hb).1
theorem MapE.sm {S : Nat → Prop} {w w' : World} {b : Nat} {L : List (List Int)} (h : MapE w b L) (hs : Sm S w w') (hS : S b) : MapE w' b L := by
  obtain ⟨es, clock, hb, he⟩ := h
  exact ⟨es, clock, (hs.block b hS (Array.getElem?_eq_some_iff.1 hb).1).trans hb, he⟩
theorem MapE.alloc {w : World} {b : Nat} {L : List (List Int)} (h : MapE w b L) (o : Obj) : MapE (w.alloc o) b L := by
  obtain ⟨es, clock, hb, he⟩ := h
  exact ⟨es, clock, (Below.heap_alloc w o b (Array.getElem?_eq_some_iff.1 hb).1).trans hb, he⟩
theorem cs5_inj {a b : List Int} (h : (cs5 a).toArray = (cs5 b).toArray) : a = b := by
  have h2 : cs5 a = cs5 b := by have := congrArg Array.toList h; simpa using this
  clear h
  induction a generalizing b with
  | nil => cases b with
    | nil => rfl
    | cons y b => simp [cs5] at h2
  | cons x a ih => cases b with
    | nil => simp [cs5] at h2
    | cons y b =>
      have h3 : x = y ∧ cs5 a = cs5 b := by simpa [cs5] using h2
      rw [h3.1, ih h3.2]
theorem zipIdx_at {α : Type} (l : List α) (j : Nat) (p : α × Nat) (h : l.zipIdx[j]? = some p) : p.2 = j ∧ l[j]? = some p.1 := by
  rw [List.getElem?_zipIdx] at h
  cases hj : l[j]? with
  | none => rw [hj] at h; cases h
  | some x => rw [hj] at h; cases h; exact ⟨by simp, rfl⟩
theorem idxOf_at {α : Type} [BEq α] [LawfulBEq α] {l : List α} (hn : l.Nodup) {j : Nat} {x : α} (h : l[j]? = some x) : l.idxOf x = j := by
  obtain ⟨hj, rfl⟩ := List.getElem?_eq_some_iff.1 h
  exact hn.idxOf_getElem j hj
/-- What is found. -/
theorem MapE.find {w : World} {b : Nat} {L : List (List Int)} (h : MapE w b L) (hL : ∀ l ∈ L, Elt l) (hn : L.Nodup) {x : List Int} (hx : Elt x) :
    ∃ es clock, w.heap[b]? = some (.map es clock) ∧ (∀ em, (Instr.checkKey em 10000 54 (.agg (cs5 x).toArray)).run Try.prog w = .ok () w) ∧
      ((x ∉ L ∧ (Instr.findKey 54 (.agg (cs5 x).toArray) es.toList).run Try.prog w = .ok none w) ∨ (x ∈ L ∧ (Instr.findKey 54 (.agg (cs5 x).toArray) es.toList).run Try.prog w = .ok (some (L.idxOf x, .int .i64 ((L.idxOf x : Nat) : Int))) w)) ∧
      es.toList.map (fun e => (e.key, e.val)) = L.zipIdx.map fun p => (Value.agg (cs5 p.1).toArray, Value.int .i64 (p.2 : Nat)) := by
  obtain ⟨es, clock, hb, he⟩ := h
  obtain ⟨kl, hkl⟩ := key_elem hx
  have hent : ∀ (j : Nat) (e : MapEntry), es.toList[j]? = some e → ∃ l, L[j]? = some l ∧ e.key = .agg (cs5 l).toArray ∧ e.val = .int .i64 (j : Nat) := by
    intro j e hj
    have h1 : (es.toList.map (fun e => (e.key, e.val)))[j]? = some (e.key, e.val) := by rw [List.getElem?_map, hj]; rfl
    rw [he, List.getElem?_map] at h1
    cases hz : L.zipIdx[j]? with
    | none => rw [hz] at h1; cases h1
    | some p =>
      rw [hz] at h1
      obtain ⟨e1, e2⟩ := zipIdx_at L j p hz
      have h2 := Option.some.inj h1
      have h3 := congrArg Prod.fst h2
      have h4 := congrArg Prod.snd h2
      simp only at h3 h4
      exact ⟨p.1, e2, h3.symm, by rw [← h4, e1]⟩
  refine ⟨es, clock, hb, fun em => law_elem.check w em hkl, ?_, he⟩
  rcases law_elem.find w hkl es.toList (fun e hm => by
    obtain ⟨j, hj⟩ := List.mem_iff_getElem?.1 hm
    obtain ⟨l, hl, hk, _⟩ := hent j e hj
    rw [hk]
    exact key_elem (hL l (List.mem_of_getElem? hl))) with ⟨h1, h2⟩ | ⟨j, e0, h1, h2, h3⟩
  · refine .inl ⟨fun hm => ?_, h1⟩
    obtain ⟨j, hj⟩ := List.mem_iff_getElem?.1 hm
    have hlen : es.toList.length = L.length := by have := congrArg List.length he; simpa using this
    have hjl : j < es.toList.length := by rw [hlen]; exact (List.getElem?_eq_some_iff.1 hj).1
    obtain ⟨l, hl, hk, _⟩ := hent j _ (List.getElem?_eq_getElem hjl)
    rw [hj] at hl
    cases hl
    exact h2 _ (List.getElem_mem hjl) hk
  · obtain ⟨l, hl, hk, hv⟩ := hent j e0 h2
    rw [h3] at hk
    injection hk with hk
    obtain rfl := cs5_inj hk
    refine .inr ⟨List.mem_of_getElem? hl, ?_⟩
    rw [h1, hv, idxOf_at hn hl]
theorem MapE.look {w : World} {b : Nat} {L : List (List Int)} (h : MapE w b L) (hL : ∀ l ∈ L, Elt l) (hn : L.Nodup) {x : List Int} (hx : Elt x) :
    (Instr.lookup 50 (.map (some b)) (.agg (cs5 x).toArray) true).run Try.prog w = .ok (.tuple #[.int .i64 (if x ∈ L then ((L.idxOf x : Nat) : Int) else 0), .bool (decide (x ∈ L))]) w := by
  obtain ⟨es, clock, hb, hc, hf, _⟩ := h.find hL hn hx
  have hz : (zeroValue 3).run Try.prog w = .ok (.int .i64 0) w := by kernel_rfl
  have ht : Try.prog.underlying 50 = some (.map 54 3) := Try.underlying50
  rcases hf with ⟨hm, hf⟩ | ⟨hm, hf⟩
  · simp [Instr.lookup, run_underlying ht, MapKept.run_getObj_map hb, hc, hf, hz, Result.andThen, hm]
  · simp [Instr.lookup, run_underlying ht, MapKept.run_getObj_map hb, hc, hf, Result.andThen, hm]
theorem MapE.add {w : World} {b : Nat} {L : List (List Int)} (h : MapE w b L) (hL : ∀ l ∈ L, Elt l) (hn : L.Nodup) {x : List Int} (hx : Elt x) (hm : x ∉ L) :
    ∃ w', (Instr.mapUpdate 50 (.map (some b)) (.agg (cs5 x).toArray) (.int .i64 (L.length : Nat))).run Try.prog w = .ok () w' ∧ MapE w' b (L ++ [x]) ∧ Sm (fun k => k ≠ b) w w' ∧ w'.heap.size = w.heap.size := by
  obtain ⟨es, clock, hb, hc, hf, he⟩ := h.find hL hn hx
  have ht : Try.prog.underlying 50 = some (.map 54 3) := Try.underlying50
  rcases hf with ⟨_, hf⟩ | ⟨hm', _⟩
  · refine ⟨_, by simp [Instr.mapUpdate, run_underlying ht, MapKept.run_getObj_map hb, hc, hf, MapKept.run_setObj_map _ hb, Result.andThen]; rfl, ?_, ?_, ?_⟩
    · refine ⟨es.push { key := .agg (cs5 x).toArray, val := .int .i64 (L.length : Nat), born := clock }, clock + 1, ?_, ?_⟩
      · have hlt := (Array.getElem?_eq_some_iff.1 hb).1
        simp [hlt]
      · rw [Array.toList_push, List.map_append, he, List.zipIdx_append, List.map_append]
        simp
    · exact ⟨rfl, rfl, rfl, by simp, fun k hk _ => by simp [Ne.symm hk]⟩
    · simp
  · exact absurd hm' hm
end Go.Proofs.Ytdackakjcnnofaa

/- A slice of elements that the call builds (OwnE); rows that are only read (Fz), a slice of such rows (RowsF). -/
namespace Go.Proofs.Ytdackakjcnnofaa
open Go.RowKit

theorem own_sm {S : Nat → Prop} {w w' : World} {B : Nat} {e : TypeId} {size n : Nat} {v : Value} {xs : List Value} (h : w.ownsRow B e size v n xs) (hs : Sm S w w') (hS : ∀ k, v.ownBlock = some k → S k) : w'.ownsRow B e size v n xs := by
  refine ⟨h.1, ?_⟩
  rcases h.2 with h2 | ⟨g, cap, cur, rfl, hg, hh, r⟩
  · exact .inl h2
  · exact .inr ⟨g, cap, cur, rfl, hg, (hs.block g (hS g rfl) (Array.getElem?_eq_some_iff.1 hh).1).trans hh, r⟩
theorem Sm.of_grown {S : Nat → Prop} {w w' : World} {row : Option Nat} (h : w.grownBy w' row) (hs : ∀ k, S k → some k ≠ row) : Sm S w w' := ⟨h.os, h.tape, h.output, h.size, fun k hk hlt => h.block k hlt (hs k hk)⟩
theorem Sm.of_below {S : Nat → Prop} {w w' : World} (h : Below w.heap.size w w') : Sm S w w' := ⟨h.os, h.tape, h.output, h.size, fun k _ hlt => h.block k hlt⟩
theorem Sm.weak {S S' : Nat → Prop} {w w' : World} (h : Sm S w w') (hs : ∀ k, k < w.heap.size → S' k → S k) : Sm S' w w' := ⟨h.os, h.tape, h.output, h.size, fun k hk hlt => h.block k (hs k hlt hk) hlt⟩

/-! ### elements -/
def OwnE (B : Nat) (w : World) (v : Value) (L : List (List Int)) : Prop := w.ownsRow B 54 5 v L.length (L.flatMap cs5)
theorem flat_length : ∀ L : List (List Int), (∀ l ∈ L, l.length = 5) → (L.flatMap cs5).length = L.length * 5
  | [], _ => rfl
  | l :: L, h => by
    rw [List.flatMap_cons, List.length_append, cs5_length, h l List.mem_cons_self, flat_length L fun x hx => h x (List.mem_cons_of_mem _ hx), List.length_cons]
    omega
theorem flat_get : ∀ (L : List (List Int)) (i j : Nat) (hi : i < L.length), (∀ l ∈ L, l.length = 5) → j < 5 → (L.flatMap cs5)[i * 5 + j]? = (cs5 L[i])[j]?
  | [], i, _, hi, _, _ => by simp at hi
  | l :: L, 0, j, _, h, hj => by
    rw [List.flatMap_cons, Nat.zero_mul, Nat.zero_add, List.getElem?_append_left (by rw [cs5_length, h l List.mem_cons_self]; exact hj)]
    rfl
  | l :: L, i + 1, j, hi, h, hj => by
    have hl : (cs5 l).length = 5 := by rw [cs5_length, h l List.mem_cons_self]
    rw [List.flatMap_cons, List.getElem?_append_right (by rw [hl]; omega), hl, show (i + 1) * 5 + j - 5 = i * 5 + j by omega, flat_get L i j (by simpa using hi) (fun x hx => h x (List.mem_cons_of_mem _ hx)) hj]
    rfl
theorem OwnE.at {B : Nat} {w : World} {v : Value} {L : List (List Int)} (h : OwnE B w v L) (hL : ∀ l ∈ L, l.length = 5) (i : Nat) (hi : i < L.length) :
    ∃ g cap, v = .slice (some ⟨g, 0, none⟩) L.length cap ∧ B ≤ g ∧ g < w.heap.size ∧ w.rangeAt g (i * 5) (cs5 L[i]) := by
  rcases h.2 with ⟨rfl, hn⟩ | ⟨g, cap, cur, rfl, hg, hh, hn, hcap, hsz, hx⟩
  · omega
  · refine ⟨g, cap, rfl, hg, (Array.getElem?_eq_some_iff.1 hh).1, fun j u hu => ?_⟩
    have hj : j < 5 := by have := (List.getElem?_eq_some_iff.1 hu).1; rw [cs5_length, hL _ (List.getElem_mem hi)] at this; exact this
    have h' : w.ownsRow B 54 5 (.slice (some ⟨g, 0, none⟩) L.length cap) L.length (L.flatMap cs5) := h
    rw [World.ownsRow.cellAt h' (i * 5 + j) (by omega), flat_get L i j hi hL hj]
    exact hu
theorem infoEl : (Try.prog.info? 54).map (fun i => (i.zero, i.size, i.bytes)) = some (some (.agg (cs5 zeroE).toArray), 5, 40) := by kernel_rfl
theorem run_appE {ty : TypeId} {B b : Nat} {w : World} {v : Value} {L : List (List Int)} {x : List Int} (h : OwnE B w v L) (hx : x.length = 5) (hb : Held w b 54 (cs5 x)) (hl : L.length < 1000000) (hB : B ≤ w.heap.size) :
    ∃ v' w', (Builtin.append_ #[49, 49] ty #[v, .slice (some ⟨b, 0, none⟩) 1 1]).run Try.prog w = .ok v' w' ∧ OwnE B w' v' (L ++ [x]) ∧ w.grownBy w' v.ownBlock ∧ (v'.ownBlock = v.ownBlock ∨ v'.ownBlock = some w.heap.size) := by
  obtain ⟨i, hi1, hz0, hz1, hz2⟩ := info_parts infoEl
  obtain ⟨v', w', hrun, r1, r2, _, r4⟩ := run_append_own_at (P := Try.prog) w B 49 ty 54 i (.agg (cs5 zeroE).toArray) 5 40 Try.underlying49 hi1 hz0 hz1 hz2 (by simp [Value.cells, cs5_length, zeroE]) (by decide) v L.length _ h ⟨b, 0, none⟩ 1 1 (cs5 x) (by rw [cs5_length, hx])
    (fun j u hj => by
      have e : (⟨b, 0, none⟩ : Addr).add j = ⟨b, j, none⟩ := by unfold Addr.add; split <;> simp_all
      rw [e]; exact hb.at hj)
    (cs5_one x) (by unfold maxLen; omega) (by omega) hB
  refine ⟨v', w', hrun, ?_, r2, r4⟩
  unfold OwnE
  rw [List.length_append, List.flatMap_append]
  simpa using r1
theorem wpList_appE {ops : Array Oper} {o : Oper} {a : Act} {w : World} {Q : Exit → Act → World → Prop} {rest : List Oper} (hg : o.guard = none) (s y : Operand)
    (hop : o.op = Op.call { callee := Callee.builtin Builtin.append, args := #[s, y], argTypes := #[49, 49] }) (B b : Nat) (v : Value) (L : List (List Int)) (x : List Int) (hs : a.eval s = v) (h : OwnE B w v L) (hx : x.length = 5)
    (hy : a.eval y = .slice (some ⟨b, 0, none⟩) 1 1) (hb : Held w b 54 (cs5 x)) (hl : L.length < 1000000) (hB : B ≤ w.heap.size)
    (hK : ∀ v' w', OwnE B w' v' (L ++ [x]) → w.grownBy w' v.ownBlock → (v'.ownBlock = v.ownBlock ∨ v'.ownBlock = some w.heap.size) → wpList Try.prog ops Q rest (a.put o.dst v') w') : wpList Try.prog ops Q (o :: rest) a w := by
  refine wpList_plain hg fun K' hK' => ?_
  obtain ⟨v', w', hrun, r1, r2, r3⟩ := run_appE (ty := o.type) h hx hb hl hB
  unfold Oper.wp
  simp [execOp, hop, resolve, invoke, builtin, hs, hy, Result.andThen]
  rw [hrun]
  exact hK' _ _ (hK v' w' r1 r2 r3)

/-! ### rows that are only read -/
/-- The slice reads as xs, and lies in a block of S. -/
def Fz (S : Nat → Prop) (w : World) (v : Value) (xs : List Int) : Prop :=
  ∃ (a : Option Addr) (c : Nat), v = .slice a xs.length c ∧ xs.length ≤ 1000000 ∧ xs.length ≤ c ∧
    (xs ≠ [] → ∃ b off, a = some ⟨b, off, none⟩ ∧ S b ∧ b < w.heap.size ∧ ∀ i (h : i < xs.length), w.cell? ⟨b, off + i, none⟩ = some (.int .i64 xs[i]))
theorem Fz.ints {S : Nat → Prop} {w : World} {v : Value} {xs : List Int} (h : Fz S w v xs) : Ints w v xs := by
  obtain ⟨a, c, rfl, h1, h2, h3⟩ := h
  refine ⟨a, c, rfl, by omega, h2, fun hne => ?_⟩
  obtain ⟨b, off, rfl, _, hb, hc⟩ := h3 hne
  exact ⟨b, off, rfl, hb, hc⟩
theorem Fz.kept {S : Nat → Prop} {w w' : World} {v : Value} {xs : List Int} (h : Fz S w v xs) (hs : Sm S w w') : Fz S w' v xs := by
  obtain ⟨a, c, rfl, h1, h2, h3⟩ := h
  refine ⟨a, c, rfl, h1, h2, fun hne => ?_⟩
  obtain ⟨b, off, rfl, hS, hb, hc⟩ := h3 hne
  exact ⟨b, off, rfl, hS, Nat.lt_of_lt_of_le hb hs.size, fun i hi => (World.cell?_of_block (hs.block b hS hb)).trans (hc i hi)⟩
theorem Fz.mono {S S' : Nat → Prop} {w : World} {v : Value} {xs : List Int} (h : Fz S w v xs) (hs : ∀ k, S k → S' k) : Fz S' w v xs := by
  obtain ⟨a, c, rfl, h1, h2, h3⟩ := h
  refine ⟨a, c, rfl, h1, h2, fun hne => ?_⟩
  obtain ⟨b, off, rfl, hS, r⟩ := h3 hne
  exact ⟨b, off, rfl, hs b hS, r⟩
theorem OwnI.fz {B : Nat} {w : World} {v : Value} {xs : List Int} {S : Nat → Prop} (h : OwnI 3 B w v xs) (hl : xs.length ≤ 1000000) (hS : ∀ k, v.ownBlock = some k → S k) : Fz S w v xs := by
  obtain ⟨a, c, rfl, h1, h2, h3⟩ := h.ints (by omega)
  refine ⟨a, c, rfl, hl, h2, fun hne => ?_⟩
  obtain ⟨b, off, rfl, hb, hc⟩ := h3 hne
  exact ⟨b, off, rfl, hS b rfl, hb, hc⟩

theorem infoR : (Try.prog.info? 28).map (fun i => (i.zero, i.size, i.bytes)) = some (some (.slice none 0 0), 1, 24) := by kernel_rfl
theorem info3 : (Try.prog.info? 3).map (fun i => (i.zero, i.size, i.bytes)) = some (some (.int .i64 0), 1, 8) := by kernel_rfl

/-- 'append(v[:len(v):len(v)], y)': always a new row. -/
theorem run_app_cut {ty : TypeId} {w : World} {a : Option Addr} {c' : Nat} {xs : List Int} {y : Int} (h : Ints w (.slice a xs.length c') xs) {ad : Addr} {c : Nat} (hc : w.cell? ad = some (.int .i64 y)) (hlen : xs.length < 1000000) :
    ∃ v' w', (Builtin.append_ #[28, 28] ty #[.slice a xs.length xs.length, .slice (some ad) 1 c]).run Try.prog w = .ok v' w' ∧ OwnI 3 w.heap.size w' v' (xs ++ [y]) ∧ Below w.heap.size w w' := by
  obtain ⟨i, hi1, hz0, hz1, hz2⟩ := info_parts info3
  obtain ⟨a', c2, he, h1, h2, h3⟩ := h
  obtain ⟨rfl, _, rfl⟩ := Value.slice.inj he
  have hnews : ∀ j u, [Value.int .i64 y][j]? = some u → w.cell? (ad.add j) = some u := by
    intro j u hj
    match j, hj with
    | 0, hj => simp at hj; subst hj; simpa [Addr.add] using hc
  cases a with
  | none =>
    have : xs = [] := by
      by_cases hx : xs = []
      · exact hx
      · obtain ⟨b, off, h, _⟩ := h3 hx; cases h
    subst this
    obtain ⟨v', w', h1, h2, h3, h4⟩ := run_app1 (P := Try.prog) (t := 28) (ty := ty) Try.underlying28 info3 (OwnI.nil 3 w.heap.size w) hc (by simp) (Nat.le_refl _)
    exact ⟨v', w', h1, h2, h4⟩
  | some A =>
    have hcells : ∀ j v, (xs.map (Value.int .i64))[j]? = some v → w.cell? (A.add j) = some v := by
      intro j v hj
      have hjl : j < xs.length := by have := (List.getElem?_eq_some_iff.1 hj).1; simpa using this
      obtain ⟨b, off, e, _, hcell⟩ := h3 (by intro e; rw [e] at hjl; simp at hjl)
      cases e
      have e2 : (⟨b, off, none⟩ : Addr).add j = ⟨b, off + j, none⟩ := by unfold Addr.add; split <;> simp_all
      rw [e2, hcell j hjl]
      simpa [List.getElem?_eq_getElem hjl] using hj
    have hr := run_append_grow (P := Try.prog) w 28 ty 3 i (.int .i64 0) Try.underlying28 hi1 hz0 A xs.length xs.length (xs.map (Value.int .i64)) (by rw [hz1]; simp) hcells ad 1 c [.int .i64 y] (by rw [hz1]; rfl) hnews (by omega) (by omega) (growslice_fits (by omega) (by rw [hz2]; omega))
    refine ⟨_, _, hr, ⟨by simp, .inr ⟨w.heap.size, grownCap w (xs.length + 1) xs.length 3, _, by simp, Nat.le_refl _, heap_alloc_new w.drew _, by have := grownCap_ge w (xs.length + 1) xs.length 3; simpa using this, grownCap_le_maxLen w _ _ _ (by unfold maxLen; omega), ?_, ?_⟩⟩, (Below.refl _ w).drew.alloc (Nat.le_refl _) _⟩
    · have hge := grownCap_ge w (xs.length + 1) xs.length 3
      simp only [Array.size_append, List.size_toArray, size_zeroCells, List.length_map, List.length_cons, List.length_nil]
      simp only [Value.cells, List.size_toArray, List.length_cons, List.length_nil]
      omega
    · simp only [Array.toList_append, List.append_assoc]
      rw [List.map_append, ← List.append_assoc]
      have : (xs ++ [y]).length * 1 = (xs.map (Value.int .i64) ++ [Value.int .i64 y]).length := by simp
      rw [this]
      exact List.take_left

/-- A slice of rows that are only read; its own cells from block B on. -/
def RowsF (S : Nat → Prop) (B : Nat) (w : World) (v : Value) (ls : List (List Nat)) : Prop :=
  ∃ vs : List Value, w.ownsRow B 28 1 v ls.length vs ∧ ∀ (i : Nat) (u : Value) (l : List Nat), vs[i]? = some u → ls[i]? = some l → Fz S w u (toI l)
theorem RowsF.nil (S : Nat → Prop) (B : Nat) (w : World) : RowsF S B w (.slice none 0 0) [] := ⟨[], World.ownsRow_nil w B 28 1, by simp⟩
theorem RowsF.kept {S S' : Nat → Prop} {B : Nat} {w w' : World} {v : Value} {ls : List (List Nat)} (h : RowsF S B w v ls) (hs : Sm S' w w') (hSS : ∀ k, S k → S' k) (hv : ∀ k, v.ownBlock = some k → S' k) : RowsF S B w' v ls := by
  obtain ⟨vs, ho, hr⟩ := h
  exact ⟨vs, own_sm ho hs hv, fun i u l h1 h2 => (hr i u l h1 h2).kept (hs.weak fun k _ hk => hSS k hk)⟩
theorem RowsF.mono {S S' : Nat → Prop} {B : Nat} {w : World} {v : Value} {ls : List (List Nat)} (h : RowsF S B w v ls) (hs : ∀ k, S k → S' k) : RowsF S' B w v ls := by
  obtain ⟨vs, ho, hr⟩ := h
  exact ⟨vs, ho, fun i u l h1 h2 => (hr i u l h1 h2).mono hs⟩
theorem RowsF.alloc {S : Nat → Prop} {B : Nat} {w : World} {v : Value} {ls : List (List Nat)} (h : RowsF S B w v ls) (o : Obj) : RowsF S B (w.alloc o) v ls :=
  h.kept (S' := fun _ => True) (Sm.of_below ((Below.refl _ _).alloc (Nat.le_refl _) _)) (fun _ _ => trivial) (fun _ _ => trivial)
theorem RowsF.drew {S : Nat → Prop} {B : Nat} {w : World} {v : Value} {ls : List (List Nat)} (h : RowsF S B w v ls) : RowsF S B w.drew v ls := h
theorem RowsF.form {S : Nat → Prop} {B : Nat} {w : World} {v : Value} {ls : List (List Nat)} (h : RowsF S B w v ls) : ∃ a c, v = .slice a ls.length c := by
  obtain ⟨vs, ⟨_, h2⟩, _⟩ := h
  rcases h2 with ⟨rfl, hn⟩ | ⟨g, cap, cur, rfl, _⟩
  · exact ⟨none, 0, by rw [hn]⟩
  · exact ⟨_, _, rfl⟩
theorem RowsF.at {S : Nat → Prop} {B : Nat} {w : World} {v : Value} {ls : List (List Nat)} (h : RowsF S B w v ls) (i : Nat) (hi : i < ls.length) :
    ∃ g cap u, v = .slice (some ⟨g, 0, none⟩) ls.length cap ∧ B ≤ g ∧ g < w.heap.size ∧ w.cell? ⟨g, i, none⟩ = some u ∧ Fz S w u (toI ls[i]) := by
  obtain ⟨vs, ho, hr⟩ := h
  have hl : vs.length = ls.length := by have := ho.1; omega
  rcases ho.2 with ⟨rfl, hn⟩ | ⟨g, cap, cur, rfl, hg, hh, _⟩
  · omega
  · have hcell := World.ownsRow.cellAt ho i (by omega)
    have hvi : vs[i]? = some (vs[i]'(by omega)) := List.getElem?_eq_getElem (by omega)
    exact ⟨g, cap, vs[i]'(by omega), rfl, hg, (Array.getElem?_eq_some_iff.1 hh).1, by rw [hcell, hvi], hr i _ _ hvi (List.getElem?_eq_getElem hi)⟩
theorem Fz.one {S : Nat → Prop} {w : World} {v : Value} {xs : List Int} (h : Fz S w v xs) : v.oneCell' = true := by
  obtain ⟨a, c, rfl, _⟩ := h; rfl
theorem run_appF {ty : TypeId} {S : Nat → Prop} {B b : Nat} {w : World} {v u : Value} {ls : List (List Nat)} {l : List Nat} (h : RowsF S B w v ls) (hu : Fz S w u (toI l)) (hb : Held w b 28 [u]) (hS : ∀ k, S k → v.ownBlock ≠ some k) (hl : ls.length < 1000000) (hB : B ≤ w.heap.size) :
    ∃ v' w', (Builtin.append_ #[22, 22] ty #[v, .slice (some ⟨b, 0, none⟩) 1 1]).run Try.prog w = .ok v' w' ∧ RowsF S B w' v' (ls ++ [l]) ∧ w.grownBy w' v.ownBlock ∧ (v'.ownBlock = v.ownBlock ∨ v'.ownBlock = some w.heap.size) := by
  obtain ⟨i, hi1, hz0, hz1, hz2⟩ := info_parts infoR
  obtain ⟨vs, ho, hr⟩ := h
  have hvl : vs.length = ls.length := by have := ho.1; omega
  obtain ⟨v', w', hrun, r1, r2, _, r4⟩ := run_append_own_at (P := Try.prog) w B 22 ty 28 i (.slice none 0 0) 1 24 Try.underlying22 hi1 hz0 hz1 hz2 rfl (by decide) v ls.length vs ho ⟨b, 0, none⟩ 1 1 [u] rfl
    (fun j x hj => by
      match j, hj with
      | 0, hj => simp at hj; subst hj; simpa [Addr.add] using hb.at (i := 0) rfl)
    (fun x hx => by simp at hx; subst hx; exact hu.one) (by unfold maxLen; omega) (by omega) hB
  have hsm : Sm S w w' := Sm.of_grown r2 fun k hk e => hS k hk e.symm
  refine ⟨v', w', hrun, ⟨vs ++ [u], by rw [List.length_append]; exact r1, fun i x y h1 h2 => ?_⟩, r2, r4⟩
  by_cases hi : i < vs.length
  · rw [List.getElem?_append_left hi] at h1
    rw [List.getElem?_append_left (by omega)] at h2
    exact (hr i x y h1 h2).kept hsm
  · rw [List.getElem?_append_right (by omega)] at h1
    rw [List.getElem?_append_right (by omega), ← hvl] at h2
    obtain e : i - vs.length = 0 := by
      cases hk : i - vs.length with
      | zero => rfl
      | succ n => rw [hk] at h1; simp at h1
    rw [e] at h1 h2
    simp at h1 h2
    subst h1; subst h2
    exact hu.kept hsm

/-- How a row of cells is laid by 'buildSlice'. -/
theorem foldl_zip_get : ∀ (l : List Value) (k : Nat) (z : Array Value) (i : Nat), k + l.length ≤ z.size →
    ((l.zipIdx k).foldl (fun cs x => cs.setIfInBounds x.2 x.1) z)[i]? = if k ≤ i ∧ i < k + l.length then l[i - k]? else z[i]?
  | [], k, z, i, _ => by simp; omega
  | v :: l, k, z, i, h => by
    rw [List.zipIdx_cons, List.foldl_cons, foldl_zip_get l (k + 1) _ i (by simp at h ⊢; omega)]
    simp only [List.length_cons] at h ⊢
    by_cases h1 : k + 1 ≤ i ∧ i < k + 1 + l.length
    · rw [if_pos h1, if_pos (by omega), show i - k = (i - (k + 1)) + 1 by omega]; rfl
    · rw [if_neg h1]
      by_cases e : i = k
      · subst e
        rw [if_pos ⟨Nat.le_refl _, by omega⟩, Nat.sub_self]
        simp [show i < z.size by omega]
      · rw [if_neg (by omega)]
        simp [Ne.symm e]
theorem foldl_zip (l : List Value) (z : Array Value) (hz : z.size = l.length) : l.zipIdx.foldl (fun cs x => cs.setIfInBounds x.2 x.1) z = l.toArray := by
  refine Array.ext_getElem? fun i => ?_
  rw [foldl_zip_get l 0 z i (by omega)]
  by_cases h : i < l.length
  · rw [if_pos (by omega)]; simp
  · rw [if_neg (by omega), Array.getElem?_eq_none (by omega), Array.getElem?_eq_none (by simp; omega)]
theorem run_app1_at {ty : TypeId} {B : Nat} {w : World} {v : Value} {xs : List Int} {y : Int} (hown : OwnI 3 B w v xs)
    {ad : Addr} {c : Nat} (hc : w.cell? ad = some (.int .i64 y)) (hlen : xs.length < 1000000) (hB : B ≤ w.heap.size) :
    ∃ v' w', (Builtin.append_ #[28, 28] ty #[v, .slice (some ad) 1 c]).run Try.prog w = .ok v' w' ∧ OwnI 3 B w' v' (xs ++ [y]) ∧ w.grownBy w' v.ownBlock ∧ (v'.ownBlock = v.ownBlock ∨ v'.ownBlock = some w.heap.size) := by
  obtain ⟨i, hi1, hz0, hz1, hz2⟩ := info_parts info3
  obtain ⟨v', w', hrun, r1, r2, _, r4⟩ := run_append_own_at (P := Try.prog) w B 28 ty 3 i (.int .i64 0) 1 8 Try.underlying28 hi1 hz0 hz1 hz2 rfl (by decide) v xs.length _ hown ad 1 c [.int .i64 y] rfl
    (fun j u hj => by
      match j, hj with
      | 0, hj => simp at hj; subst hj; simpa [Addr.add] using hc)
    (by intro u hu; simp at hu; subst hu; rfl) (by unfold maxLen; omega) (by omega) hB
  exact ⟨v', w', hrun, by unfold OwnI; simpa using r1, r2, r4⟩
theorem wpList_app1_at {ops : Array Oper} {o : Oper} {a : Act} {w : World} {Q : Exit → Act → World → Prop} {rest : List Oper} (hg : o.guard = none) (s x : Operand)
    (hop : o.op = Op.call { callee := Callee.builtin Builtin.append, args := #[s, x], argTypes := #[28, 28] }) (B : Nat) (v : Value) (xs : List Int) (y : Int) (hs : a.eval s = v) (hown : OwnI 3 B w v xs)
    (ad : Addr) (c : Nat) (hx : a.eval x = .slice (some ad) 1 c) (hc : w.cell? ad = some (.int .i64 y)) (hlen : xs.length < 1000000) (hB : B ≤ w.heap.size)
    (hK : ∀ v' w', OwnI 3 B w' v' (xs ++ [y]) → w.grownBy w' v.ownBlock → (v'.ownBlock = v.ownBlock ∨ v'.ownBlock = some w.heap.size) → wpList Try.prog ops Q rest (a.put o.dst v') w') : wpList Try.prog ops Q (o :: rest) a w := by
  refine wpList_plain hg fun K' hK' => ?_
  obtain ⟨v', w', hrun, r1, r2, r3⟩ := run_app1_at (ty := o.type) hown hc hlen hB
  unfold Oper.wp
  simp [execOp, hop, resolve, invoke, builtin, hs, hx, Result.andThen]
  rw [hrun]
  exact hK' _ _ (hK v' w' r1 r2 r3)

theorem wpList_appF {ops : Array Oper} {o : Oper} {a : Act} {w : World} {Q : Exit → Act → World → Prop} {rest : List Oper} (hg : o.guard = none) (s y : Operand)
    (hop : o.op = Op.call { callee := Callee.builtin Builtin.append, args := #[s, y], argTypes := #[22, 22] }) (S : Nat → Prop) (B b : Nat) (v u : Value) (ls : List (List Nat)) (l : List Nat) (hs : a.eval s = v) (h : RowsF S B w v ls) (hu : Fz S w u (toI l))
    (hy : a.eval y = .slice (some ⟨b, 0, none⟩) 1 1) (hb : Held w b 28 [u]) (hS : ∀ k, S k → v.ownBlock ≠ some k) (hl : ls.length < 1000000) (hB : B ≤ w.heap.size)
    (hK : ∀ v' w', RowsF S B w' v' (ls ++ [l]) → w.grownBy w' v.ownBlock → (v'.ownBlock = v.ownBlock ∨ v'.ownBlock = some w.heap.size) → wpList Try.prog ops Q rest (a.put o.dst v') w') : wpList Try.prog ops Q (o :: rest) a w := by
  refine wpList_plain hg fun K' hK' => ?_
  obtain ⟨v', w', hrun, r1, r2, r3⟩ := run_appF (ty := o.type) h hu hb hS hl hB
  unfold Oper.wp
  simp [execOp, hop, resolve, invoke, builtin, hs, hy, Result.andThen]
  rw [hrun]
  exact hK' _ _ (hK v' w' r1 r2 r3)
end Go.Proofs.Ytdackakjcnnofaa

/- isPermutation. -/
namespace Go.Proofs.Ytdackakjcnnofaa
open Go.RowKit

theorem ne_nil_of_lt {α : Type} {xs : List α} {k : Nat} (h : k < xs.length) : xs ≠ [] := by intro e; rw [e] at h; simp at h
theorem pow_in64 : ∀ j : Nat, j < 7 → wrap64 ((2 : Int) ^ j) = (2 : Int) ^ j := by decide +kernel
theorem pow_in164 : ∀ j : Nat, j < 7 → wrap64 ((2 : Int) ^ j - 1) = (2 : Int) ^ j - 1 := by decide +kernel
theorem pow_in : ∀ j : Nat, j < 7 → IntKind.i64.wrap ((2 : Int) ^ j) = (2 : Int) ^ j := by decide +kernel
theorem pow_in1 : ∀ j : Nat, j < 7 → IntKind.i64.wrap ((2 : Int) ^ j - 1) = (2 : Int) ^ j - 1 := by decide +kernel
theorem or_walk : ∀ j : Nat, j < 5 → ∀ m : Nat, m < 32 → bits BinOp.or IntKind.i64 (m : Int) ((2 : Int) ^ j) = ((m ||| 2 ^ j : Nat) : Int) := by decide +kernel
theorem or_lt32 : ∀ j : Nat, j < 5 → ∀ m : Nat, m < 32 → m ||| 2 ^ j < 32 := by decide +kernel
/-- The numbers met. -/
def maskP (l : List Int) : Nat := l.foldl (fun m x => m ||| 2 ^ x.toNat) 0
theorem maskP_snoc (l : List Int) (x : Int) : maskP (l ++ [x]) = maskP l ||| 2 ^ x.toNat := by simp [maskP]
def permB (d : Nat) (l : List Int) : Bool := (l.all fun x => decide (0 ≤ x) && decide (x < d)) && (decide (l.length = d) && decide (maskP l = 2 ^ d - 1))
theorem permB_bad {d : Nat} {l : List Int} {k : Nat} (hk : k < l.length) (h : l[k] < 0 ∨ (d : Int) ≤ l[k]) : permB d l = false := by
  unfold permB
  rw [Bool.and_eq_false_iff]
  refine Or.inl ?_
  rw [← Bool.not_eq_true, List.all_eq_true]
  intro hall
  have := hall _ (List.getElem_mem hk)
  simp at this
  omega
theorem all_snoc {p : Int → Prop} {l : List Int} {k : Nat} (hk : k < l.length) (h : ∀ x ∈ l.take k, p x) (hp : p l[k]) : ∀ x ∈ l.take (k + 1), p x := by
  intro x hx
  rw [List.take_succ_eq_append_getElem hk] at hx
  rcases List.mem_append.1 hx with hx | hx
  · exact h x hx
  · rw [List.mem_singleton.1 hx]; exact hp

set_option maxRecDepth 100000 in
set_option maxHeartbeats 400000 in
theorem isPermutation_any (v : Value) (xs : List Int) (d : Nat) (w : World) (hd : d ≤ 5) (h : Ints w v xs) :
    Calls Try.prog 33 #[v, .int .i64 (d : Nat)] w fun e w' => e = .returned (.bool (permB d xs)) ∧ Below w.heap.size w w' := by
  obtain ⟨a, c, rfl, hl1, _, hc1⟩ := h
  have p1 := pow_in64 d (by omega)
  have p2 := pow_in164 d (by omega)
  have p3 := pow_in d (by omega)
  have p4 := pow_in1 d (by omega)
  have hdi : (d : Int) ≤ 5 := by omega
  go_enter Try.func33, Try.ntmps33
  go_wp2
  go_loopw [5, 10] (fun s i wr => ∃ k : Nat, k ≤ xs.length ∧ i = .int .i64 k ∧ s = .int .i64 (maskP (xs.take k) : Nat) ∧ maskP (xs.take k) < 32 ∧ (∀ x ∈ xs.take k, 0 ≤ x ∧ x < (d : Int)) ∧ Below w.heap.size w wr) (fun _ i _ => xs.length - (intOf i).toNat)
  case atStart => exact ⟨0, Nat.zero_le _, rfl, rfl, by simp [maskP], by simp, Below.refl _ _⟩
  case round =>
    obtain ⟨k, hk, rfl, rfl, hm, hall, hb⟩ := hrel
    have HA := Lib.hid hall; clear hall
    by_cases hlt : k < xs.length
    · obtain ⟨b, off, rfl, hbl, hcell⟩ := hc1 (ne_nil_of_lt hlt)
      have hcx := (hb.cell (p := ⟨b, off + k, none⟩) hbl).trans (hcell k hlt)
      have hbad := @permB_bad d xs k hlt
      have hsn := maskP_snoc (xs.take k) xs[k]
      have hall2 : 0 ≤ xs[k] ∧ xs[k] < (d : Int) → ∀ x ∈ xs.take (k + 1), 0 ≤ x ∧ x < (d : Int) := fun hp => all_snoc (p := fun x => 0 ≤ x ∧ x < (d : Int)) hlt HA.out hp
      rw [← List.take_succ_eq_append_getElem hlt] at hsn
      generalize xs[k] = x at hcx hbad hsn hall2
      clear hcell hc1
      by_cases hneg : x < 0
      · have HB := Lib.hid (hbad (Or.inl hneg))
        clear hbad hsn hall2
        go_wp2
        go_ret
        exact ⟨ret_bool HB.out.symm, hb⟩
      · by_cases hge : (d : Int) ≤ x
        · have HB := Lib.hid (hbad (Or.inr hge))
          clear hbad hsn hall2
          go_wp2
          go_ret
          exact ⟨ret_bool HB.out.symm, hb⟩
        · obtain ⟨j, rfl⟩ : ∃ j : Nat, x = (j : Int) := ⟨x.toNat, by omega⟩
          rw [Int.toNat_natCast] at hsn
          have q1 := pow_in64 j (by omega)
          have q3 := pow_in j (by omega)
          have q5 := or_walk j (by omega) _ hm
          have q6 := or_lt32 j (by omega) _ hm
          rw [← hsn] at q5 q6
          have H2 := Lib.hid (hall2 ⟨by omega, by omega⟩)
          clear hbad hall2 hsn
          generalize maskP (xs.take k) = m at *
          go_wp2
          go_roundw
          case rel => exact ⟨k + 1, by omega, by go_num, by first | rfl | simp, q6, H2.out, hb⟩
          case measure => simp [intOf]; omega
    · have he : xs.take k = xs := List.take_of_length_le (by omega)
      have H1 := HA.out
      rw [he] at hm H1
      rw [he]
      have HP := Lib.hid (show permB d xs = (decide ((xs.length : Int) = d) && decide (((maskP xs : Nat) : Int) = (2 : Int) ^ d - 1)) by
        unfold permB
        rw [List.all_eq_true.2 (fun x hx => by have := H1 x hx; simp [this]), Bool.true_and]
        have e : ((2 : Int) ^ d - 1) = ((2 ^ d - 1 : Nat) : Int) := by
          have := Nat.one_le_two_pow (n := d)
          push_cast [this]
          rfl
        rw [e]
        congr 1
        · exact decide_eq_decide.2 (by omega)
        · exact decide_eq_decide.2 (by omega))
      clear H1 HA he
      generalize maskP xs = m at *
      by_cases hl : (xs.length : Int) = d
      · go_wp2
        go_ret
        refine ⟨ret_bool ?_, hb⟩
        rw [HP.out]
        simp [hl]
        rfl
      · go_wp2
        go_ret
        refine ⟨ret_bool ?_, hb⟩
        rw [HP.out]
        simp [hl]
end Go.Proofs.Ytdackakjcnnofaa

/- Slices of slices that are only read; what generators are. -/
namespace Go.Proofs.Ytdackakjcnnofaa
open Go.RowKit

/-- The slices handed in. -/
def Args (w : World) (v : Value) (L : List (List Int)) : Prop :=
  ∃ (a : Option Addr) (c : Nat), v = .slice a L.length c ∧ L.length ≤ 17592186044416 ∧ L.length ≤ c ∧
    (L ≠ [] → ∃ b off, a = some ⟨b, off, none⟩ ∧ b < w.heap.size ∧ ∀ i (h : i < L.length), ∃ u, w.cell? ⟨b, off + i, none⟩ = some u ∧ Ints w u L[i])
theorem Args.below {w w' : World} {v : Value} {L : List (List Int)} (h : Args w v L) (hb : Below w.heap.size w w') : Args w' v L := by
  obtain ⟨a, c, rfl, h1, h2, h4⟩ := h
  refine ⟨a, c, rfl, h1, h2, fun hne => ?_⟩
  obtain ⟨b, off, rfl, hlt, hc⟩ := h4 hne
  refine ⟨b, off, rfl, Nat.lt_of_lt_of_le hlt hb.size, fun i hi => ?_⟩
  obtain ⟨u, h5, h6⟩ := hc i hi
  exact ⟨u, (hb.cell (p := ⟨b, off + i, none⟩) hlt).trans h5, h6.below hb⟩
/-- Row i of it. -/
theorem Args.at {w : World} {v : Value} {L : List (List Int)} (h : Args w v L) (i : Nat) (hi : i < L.length) : ∃ b off c u, v = .slice (some ⟨b, off, none⟩) L.length c ∧ b < w.heap.size ∧ w.cell? ⟨b, off + i, none⟩ = some u ∧ Ints w u L[i] := by
  obtain ⟨a, c, rfl, _, _, h4⟩ := h
  obtain ⟨b, off, rfl, hlt, hc⟩ := h4 (ne_nil_of_lt hi)
  obtain ⟨u, h5, h6⟩ := hc i hi
  exact ⟨b, off, c, u, rfl, hlt, h5, h6⟩
theorem Args.len {w : World} {v : Value} {L : List (List Int)} (h : Args w v L) : L.length ≤ 17592186044416 := by
  obtain ⟨a, c, rfl, h1, _⟩ := h; exact h1
theorem Args.form {w : World} {v : Value} {L : List (List Int)} (h : Args w v L) : ∃ a c, v = .slice a L.length c := by
  obtain ⟨a, c, rfl, h1, _⟩ := h; exact ⟨a, c, rfl⟩

def inB (d : Nat) (x : Int) : Bool := decide (0 ≤ x) && decide (x < d)
/-- A row is a permutation of d numbers, 1 to 5. -/
def rowQ (d : Nat) (p : List Int) : Bool := decide (1 ≤ d) && decide (d ≤ 5) && (p.all (inB d) && decide p.Nodup && decide (p.length = d))
def genQ (L : List (List Int)) : Bool := decide (1 ≤ L.length) && decide (L.length ≤ 4) && L.all (rowQ (L.headD []).length)
theorem rowQ_iff {d : Nat} {p : List Int} : rowQ d p = true ↔ 1 ≤ d ∧ d ≤ 5 ∧ (∀ x ∈ p, 0 ≤ x ∧ x < d) ∧ p.Nodup ∧ p.length = d := by
  unfold rowQ inB
  simp only [Bool.and_eq_true, decide_eq_true_eq, List.all_eq_true]
  exact ⟨fun ⟨⟨a, b⟩, ⟨c, d⟩, e⟩ => ⟨a, b, c, d, e⟩, fun ⟨a, b, c, d, e⟩ => ⟨⟨a, b⟩, ⟨c, d⟩, e⟩⟩
theorem rowQ_no {d : Nat} {p : List Int} (h : ¬ (1 ≤ d ∧ d ≤ 5 ∧ (∀ x ∈ p, 0 ≤ x ∧ x < d) ∧ p.Nodup ∧ p.length = d)) : rowQ d p = false := by
  rw [← Bool.not_eq_true, rowQ_iff]; exact h
theorem genQ_bad {L : List (List Int)} {k : Nat} (hk : k < L.length) (h : rowQ (L.headD []).length L[k] = false) : genQ L = false := by
  unfold genQ
  rw [Bool.and_eq_false_iff]
  refine .inr ?_
  rw [← Bool.not_eq_true, List.all_eq_true]
  intro hall
  rw [hall _ (List.getElem_mem hk)] at h
  cases h
theorem genQ_len {L : List (List Int)} (h : L.length < 1 ∨ 4 < L.length) : genQ L = false := by
  unfold genQ
  rcases h with h | h
  · rw [decide_eq_false (show ¬ 1 ≤ L.length by omega)]; rfl
  · rw [decide_eq_false (show ¬ L.length ≤ 4 by omega), Bool.and_false]; rfl
theorem genQ_all {L : List (List Int)} (h1 : 1 ≤ L.length) (h4 : L.length ≤ 4) (h : ∀ p ∈ L, rowQ (L.headD []).length p = true) : genQ L = true := by
  unfold genQ
  rw [decide_eq_true h1, decide_eq_true h4, List.all_eq_true.2 h]; rfl
def natP (p : List Int) : List Nat := p.map Int.toNat
theorem natP_toI {p : List Int} (h : ∀ x ∈ p, 0 ≤ x) : toI (natP p) = p := by
  unfold toI natP
  rw [List.map_map]
  conv => rhs; rw [← List.map_id p]
  exact List.map_congr_left fun x hx => by have := h x hx; simp; omega
/-- What generators are: permutations. -/
theorem genQ_perm {L : List (List Int)} (h : genQ L = true) : 1 ≤ L.length ∧ L.length ≤ 4 ∧ 1 ≤ (L.headD []).length ∧ (L.headD []).length ≤ 5 ∧ (∀ p ∈ L, Perm1 (L.headD []).length (natP p)) ∧ L = (L.map natP).map toI := by
  unfold genQ at h
  simp only [Bool.and_eq_true, decide_eq_true_eq, List.all_eq_true] at h
  obtain ⟨⟨h1, h4⟩, hall⟩ := h
  have hd : (L.headD []) ∈ L := by cases L with
    | nil => simp at h1
    | cons a L => simp
  have h0 := rowQ_iff.1 (hall _ hd)
  refine ⟨h1, h4, h0.1, h0.2.1, fun p hp => ?_, ?_⟩
  · have hq := rowQ_iff.1 (hall _ hp)
    refine ⟨by simp [natP, hq.2.2.2.2], fun x hx => ?_, ?_⟩
    · obtain ⟨y, hy, rfl⟩ := List.mem_map.1 hx
      have := hq.2.2.1 y hy
      omega
    · unfold natP
      rw [List.Nodup, List.pairwise_map]
      refine hq.2.2.2.1.imp_of_mem ?_
      intro a b ha hb hne e
      have := hq.2.2.1 a ha
      have := hq.2.2.1 b hb
      omega
  · rw [List.map_map]
    conv => lhs; rw [← List.map_id L]
    refine List.map_congr_left fun p hp => ?_
    have hq := rowQ_iff.1 (hall _ hp)
    exact (natP_toI fun x hx => (hq.2.2.1 x hx).1).symm

theorem bit_walk : ∀ j : Nat, j < 5 → ∀ m : Nat, m < 32 → bits BinOp.and IntKind.i64 ((m : Int) / (2 : Int) ^ j) 1 = if m.testBit j then 1 else 0 := by decide +kernel
theorem bit_or : ∀ j : Nat, j < 5 → ∀ m : Nat, m < 32 → ∀ i : Nat, i < 5 → (m ||| 2 ^ j).testBit i = (m.testBit i || decide (i = j)) := by decide +kernel
theorem mask_lt {d : Nat} (hd : d ≤ 5) : ∀ (l : List Int), (∀ x ∈ l, 0 ≤ x ∧ x < (d : Int)) → ∀ m, m < 32 → l.foldl (fun m x => m ||| 2 ^ x.toNat) m < 32
  | [], _, m, h => h
  | x :: l, hx, m, h => by
    have h0 := hx x List.mem_cons_self
    exact mask_lt hd l (fun y hy => hx y (List.mem_cons_of_mem _ hy)) _ (or_lt32 x.toNat (by omega) m h)
theorem mask_bit {d : Nat} (hd : d ≤ 5) {i : Nat} (hi : i < 5) : ∀ (l : List Int), (∀ x ∈ l, 0 ≤ x ∧ x < (d : Int)) → ∀ m, m < 32 → (l.foldl (fun m x => m ||| 2 ^ x.toNat) m).testBit i = (m.testBit i || decide ((i : Int) ∈ l))
  | [], _, m, h => by simp
  | x :: l, hx, m, h => by
    have h0 := hx x List.mem_cons_self
    rw [List.foldl_cons, mask_bit hd hi l (fun y hy => hx y (List.mem_cons_of_mem _ hy)) _ (or_lt32 x.toNat (by omega) m h), bit_or x.toNat (by omega) m h i hi]
    have e : (i = x.toNat) ↔ ((i : Int) = x) := by omega
    rw [Bool.or_assoc]
    congr 1
    rw [← Bool.decide_or]
    refine decide_eq_decide.2 ?_
    rw [List.mem_cons, e]
theorem maskP_bit {d : Nat} (hd : d ≤ 5) {i : Nat} (hi : i < 5) {l : List Int} (h : ∀ x ∈ l, 0 ≤ x ∧ x < (d : Int)) : (maskP l).testBit i = decide ((i : Int) ∈ l) := by
  unfold maskP
  rw [mask_bit hd hi l h 0 (by omega)]; simp
end Go.Proofs.Ytdackakjcnnofaa

/- A slice of rows that grows; inserting into a slice of rows. -/
namespace Go.Proofs.Ytdackakjcnnofaa
open Go.RowKit
attribute [local go_sem] Oper.semAt_some

/-- A slice of rows that grows: S holds the rows' blocks. -/
def GrowR (H : Nat) (w : World) (v : Value) (ls : List (List Nat)) (S : Nat → Prop) : Prop := RowsF S H w v ls ∧ ∀ k, S k → k < w.heap.size ∧ v.ownBlock ≠ some k
theorem GrowR.nil (H : Nat) (w : World) : GrowR H w (.slice none 0 0) [] (fun _ => False) := ⟨RowsF.nil _ _ _, fun _ h => h.elim⟩
theorem RowsF.own {S : Nat → Prop} {B : Nat} {w : World} {v : Value} {ls : List (List Nat)} (h : RowsF S B w v ls) : ∀ k, v.ownBlock = some k → B ≤ k ∧ k < w.heap.size := by
  obtain ⟨vs, ho, _⟩ := h
  exact fun k hk => World.ownsRow.lt ho k hk
theorem GrowR.grow {H : Nat} {wr w2 : World} {v u : Value} {ls : List (List Nat)} {l : List Nat} {S : Nat → Prop} (h : GrowR H wr v ls S) (hb : Below wr.heap.size wr w2) (hu : OwnI 3 wr.heap.size w2 u (toI l)) (hl : l.length ≤ 1000000) :
    GrowR H w2 v ls (fun k => S k ∨ u.ownBlock = some k) ∧ Fz (fun k => S k ∨ u.ownBlock = some k) w2 u (toI l) := by
  refine ⟨⟨(h.1.kept (S' := fun _ => True) (Sm.of_below hb) (fun _ _ => trivial) (fun _ _ => trivial)).mono fun k hk => .inl hk, fun k hk => ?_⟩, OwnI.fz hu (by rw [toI_length]; exact hl) fun k hk => .inr hk⟩
  rcases hk with hk | hk
  · exact ⟨Nat.lt_of_lt_of_le (h.2 k hk).1 hb.size, (h.2 k hk).2⟩
  · have h1 := hu.lt k hk
    refine ⟨h1.2, fun e => ?_⟩
    have h2 := h.1.own k e
    omega
theorem GrowR.app {H b : Nat} {w2 w3 w4 : World} {v v4 : Value} {ls ls4 : List (List Nat)} {S : Nat → Prop} (h : GrowR H w2 v ls S) (hb : Below w2.heap.size w2 w3) (hr : RowsF S H w4 v4 ls4) (hg : w3.grownBy w4 v.ownBlock) (ho : v4.ownBlock = v.ownBlock ∨ v4.ownBlock = some w3.heap.size) (_ : b = b) :
    GrowR H w4 v4 ls4 S := by
  refine ⟨hr, fun k hk => ⟨?_, ?_⟩⟩
  · have := (h.2 k hk).1; have := hb.size; have := hg.size; omega
  · rcases ho with ho | ho
    · rw [ho]; exact (h.2 k hk).2
    · rw [ho]; intro e
      have h1 := (h.2 k hk).1
      have h2 := hb.size
      have : w3.heap.size = k := by simpa using e
      omega
theorem own_form {e : TypeId} {B : Nat} {w : World} {v : Value} {xs : List Int} (h : OwnI e B w v xs) : ∃ a n c, v = .slice a n c := by
  obtain ⟨a, c, rfl⟩ := h.form
  exact ⟨a, _, c, rfl⟩
theorem RowsF.below {S : Nat → Prop} {B : Nat} {w w' : World} {v : Value} {ls : List (List Nat)} (h : RowsF S B w v ls) (hb : Below w.heap.size w w') : RowsF S B w' v ls :=
  h.kept (S' := fun _ => True) (Sm.of_below hb) (fun _ _ => trivial) (fun _ _ => trivial)
theorem RowsF.nform {S : Nat → Prop} {B : Nat} {w : World} {v : Value} {ls : List (List Nat)} (h : RowsF S B w v ls) : ∃ a n c, v = .slice a n c := by
  obtain ⟨a, c, rfl⟩ := h.form
  exact ⟨a, _, c, rfl⟩
theorem RowsF.base {S : Nat → Prop} {B B' : Nat} {w : World} {v : Value} {ls : List (List Nat)} (h : RowsF S B w v ls) (hB : B' ≤ B) : RowsF S B' w v ls := by
  obtain ⟨vs, ⟨h1, h2⟩, hr⟩ := h
  refine ⟨vs, ⟨h1, ?_⟩, hr⟩
  rcases h2 with h2 | ⟨g, cap, cur, hv, hg, r⟩
  · exact .inl h2
  · exact .inr ⟨g, cap, cur, hv, by omega, r⟩
theorem step_appF {ops : Array Oper} {o : Oper} {a : Act} {w : World} {Q : Exit → Act → World → Prop} {K : Act → World → Prop} {E : Prop} (hg : o.guard = none) (s x : Operand) (hop : o.op = Op.call { callee := Callee.builtin Builtin.append, args := #[s, x], argTypes := #[22, 22] })
    {S : Nat → Prop} {B b : Nat} {v u : Value} {ls : List (List Nat)} {l : List Nat} (h : RowsF S B w v ls) (hu : Fz S w u (toI l)) (hb : Held w b 28 [u]) (hS : ∀ k, S k → v.ownBlock ≠ some k) (hl : ls.length < 1000000) (hB : B ≤ w.heap.size)
    (hs : a.eval s = v) (hx : a.eval x = .slice (some ⟨b, 0, none⟩) 1 1)
    (hK : ∀ v' w', RowsF S B w' v' (ls ++ [l]) → w.grownBy w' v.ownBlock → (v'.ownBlock = v.ownBlock ∨ v'.ownBlock = some w.heap.size) → K (a.put o.dst v') w') :
    if Region.wanted o (yielded ops a.tmps) = true then Oper.wp Try.prog o a w K Q else E := by
  have hw : Region.wanted o (yielded ops a.tmps) = true := by simp [Region.wanted, hg]
  rw [if_pos hw]
  obtain ⟨v', w', hrun, r1, r2, r3⟩ := run_appF (ty := o.type) h hu hb hS hl hB
  unfold Oper.wp
  have hx' := hK v' w' r1 r2 r3
  simp [execOp, hop, resolve, invoke, builtin, hs, hx, Result.andThen]
  rw [hrun]
  exact hx'

/-- A call in a region that draws its order, as one step. -/
theorem step_call {ops : Array Oper} {o : Oper} {a : Act} {w : World} {Q : Exit → Act → World → Prop} {K : Act → World → Prop} {E : Prop} (hg : o.guard = none) (f : FuncId) (args : Array Value) (hr : (execOp a.eval o).run Try.prog w = .ok (.enter f args) w) {R : Ending → World → Prop} (hc : Calls Try.prog f args w R)
    (hK : ∀ e w', R e w' → ∃ v, e = .returned v ∧ K (a.put o.dst v) w') : if Region.wanted o (yielded ops a.tmps) = true then Oper.wp Try.prog o a w K Q else E := by
  have hw : Region.wanted o (yielded ops a.tmps) = true := by simp [Region.wanted, hg]
  rw [if_pos hw]
  unfold Oper.wp
  rw [hr]
  refine Calls.mono hc fun e w'' hR => ?_
  obtain ⟨v, rfl, hv⟩ := hK e w'' hR
  exact hv

/-- A fresh slice of no rows. -/
theorem rows_fresh {S : Nat → Prop} {B g : Nat} (w : World) (hg : w.heap.size = g) (hB : B ≤ g) : RowsF S B (w.alloc (.cells #[] 28)) (.slice (some ⟨g, 0, none⟩) 0 0) [] := by
  subst hg
  exact ⟨[], ⟨by simp, .inr ⟨w.heap.size, 0, #[], rfl, hB, heap_alloc_new w _, by simp, by unfold maxLen; omega, by simp, by simp⟩⟩, by simp⟩
/-- 'append(rows, rows...)' onto a slice of rows of the call's own. -/
theorem run_appR {ty : TypeId} {S : Nat → Prop} {B : Nat} {w : World} {v : Value} {ls ms : List (List Nat)} {us : List Value} {ad : Addr} {c : Nat} (h : RowsF S B w v ls) (hul : us.length = ms.length)
    (hsrc : (∀ (j : Nat) (u : Value), us[j]? = some u → w.cell? (ad.add j) = some u) ∧ ∀ (j : Nat) (u : Value) (l : List Nat), us[j]? = some u → ms[j]? = some l → Fz S w u (toI l)) (hS : ∀ k, S k → v.ownBlock ≠ some k) (hl : ls.length + ms.length < 1000000) (hB : B ≤ w.heap.size) :
    ∃ v' w', (Builtin.append_ #[22, 22] ty #[v, .slice (some ad) ms.length c]).run Try.prog w = .ok v' w' ∧ RowsF S B w' v' (ls ++ ms) ∧ w.grownBy w' v.ownBlock ∧ (v'.ownBlock = v.ownBlock ∨ v'.ownBlock = some w.heap.size) := by
  obtain ⟨i, hi1, hz0, hz1, hz2⟩ := info_parts infoR
  obtain ⟨vs, ho, hr⟩ := h
  have hvl : vs.length = ls.length := by have := ho.1; omega
  obtain ⟨v', w', hrun, r1, r2, _, r4⟩ := run_append_own_at (P := Try.prog) w B 22 ty 28 i (.slice none 0 0) 1 24 Try.underlying22 hi1 hz0 hz1 hz2 rfl (by decide) v ls.length vs ho ad ms.length c us (by omega)
    hsrc.1 (fun x hx => by
      obtain ⟨j, hj, rfl⟩ := List.getElem_of_mem hx
      exact (hsrc.2 j _ (ms[j]'(by omega)) (List.getElem?_eq_getElem hj) (List.getElem?_eq_getElem (by omega))).one) (by unfold maxLen; omega) (by omega) hB
  have hsm : Sm S w w' := Sm.of_grown r2 fun k hk e => hS k hk e.symm
  refine ⟨v', w', hrun, ⟨vs ++ us, by rw [List.length_append]; exact r1, fun i x y h1 h2 => ?_⟩, r2, r4⟩
  by_cases hi : i < vs.length
  · rw [List.getElem?_append_left hi] at h1
    rw [List.getElem?_append_left (by omega)] at h2
    exact (hr i x y h1 h2).kept hsm
  · rw [List.getElem?_append_right (by omega)] at h1
    rw [List.getElem?_append_right (by omega), ← hvl] at h2
    exact (hsrc.2 _ x y h1 h2).kept hsm
theorem step_appR {ops : Array Oper} {o : Oper} {a : Act} {w : World} {Q : Exit → Act → World → Prop} {K : Act → World → Prop} {E : Prop} (hg : o.guard = none) (s x : Operand) (hop : o.op = Op.call { callee := Callee.builtin Builtin.append, args := #[s, x], argTypes := #[22, 22] })
    {S : Nat → Prop} {B : Nat} {v : Value} {ls ms : List (List Nat)} {us : List Value} {ad : Addr} {c : Nat} (hs : a.eval s = v) (hx : a.eval x = .slice (some ad) ms.length c) (h : RowsF S B w v ls) (hul : us.length = ms.length)
    (hsrc : (∀ (j : Nat) (u : Value), us[j]? = some u → w.cell? (ad.add j) = some u) ∧ ∀ (j : Nat) (u : Value) (l : List Nat), us[j]? = some u → ms[j]? = some l → Fz S w u (toI l)) (hS : ∀ k, S k → v.ownBlock ≠ some k) (hl : ls.length + ms.length < 1000000) (hB : B ≤ w.heap.size)
    (hK : ∀ v' w', RowsF S B w' v' (ls ++ ms) → w.grownBy w' v.ownBlock → (v'.ownBlock = v.ownBlock ∨ v'.ownBlock = some w.heap.size) → K (a.put o.dst v') w') :
    if Region.wanted o (yielded ops a.tmps) = true then Oper.wp Try.prog o a w K Q else E := by
  have hw : Region.wanted o (yielded ops a.tmps) = true := by simp [Region.wanted, hg]
  rw [if_pos hw]
  obtain ⟨v', w', hrun, r1, r2, r3⟩ := run_appR (ty := o.type) h hul hsrc hS hl hB
  unfold Oper.wp
  have hx' := hK v' w' r1 r2 r3
  simp [execOp, hop, resolve, invoke, builtin, hs, hx, Result.andThen]
  rw [hrun]
  exact hx'
/-- Rows that are only read, from a place of a block on. -/
structure RowsR (S : Nat → Prop) (w : World) (g off : Nat) (vs : List Value) (ls : List (List Nat)) : Prop where
  len : vs.length = ls.length
  blk : g < w.heap.size
  cell : ∀ (j : Nat) (u : Value), vs[j]? = some u → w.cell? ⟨g, off + j, none⟩ = some u
  row : ∀ (j : Nat) (u : Value) (l : List Nat), vs[j]? = some u → ls[j]? = some l → Fz S w u (toI l)
theorem RowsR.below {S : Nat → Prop} {w w' : World} {g off : Nat} {vs : List Value} {ls : List (List Nat)} (h : RowsR S w g off vs ls) (hb : Below w.heap.size w w') : RowsR S w' g off vs ls :=
  ⟨h.len, Nat.lt_of_lt_of_le h.blk hb.size, fun j u hj => (hb.cell (p := ⟨g, off + j, none⟩) h.blk).trans (h.cell j u hj), fun j u l h1 h2 => (h.row j u l h1 h2).kept (S := S) (Sm.of_below hb)⟩
theorem RowsR.take {S : Nat → Prop} {w : World} {g off : Nat} {vs : List Value} {ls : List (List Nat)} (h : RowsR S w g off vs ls) (k : Nat) : (∀ (j : Nat) (u : Value), (vs.take k)[j]? = some u → w.cell? ((⟨g, off, none⟩ : Addr).add j) = some u) ∧ ∀ (j : Nat) (u : Value) (l : List Nat), (vs.take k)[j]? = some u → (ls.take k)[j]? = some l → Fz S w u (toI l) := by
  refine ⟨fun j u hj => ?_, fun j u l h1 h2 => ?_⟩
  · have e2 : (⟨g, off, none⟩ : Addr).add j = ⟨g, off + j, none⟩ := by unfold Addr.add; split <;> simp_all
    rw [e2]
    rw [List.getElem?_take] at hj
    split at hj
    · exact h.cell j u hj
    · cases hj
  · rw [List.getElem?_take] at h1 h2
    split at h1
    · rename_i hk
      rw [if_pos hk] at h2
      exact h.row j u l h1 h2
    · cases h1
theorem RowsR.drop {S : Nat → Prop} {w : World} {g off : Nat} {vs : List Value} {ls : List (List Nat)} (h : RowsR S w g off vs ls) {k cap : Nat} (hk : k ≤ ls.length) (hc : ls.length ≤ cap) {ad : Addr} (had : (if cap = k then some (⟨g, off, none⟩ : Addr) else some ⟨g, off + k, none⟩) = some ad) :
    (∀ (j : Nat) (u : Value), (vs.drop k)[j]? = some u → w.cell? (ad.add j) = some u) ∧ ∀ (j : Nat) (u : Value) (l : List Nat), (vs.drop k)[j]? = some u → (ls.drop k)[j]? = some l → Fz S w u (toI l) := by
  refine ⟨fun j u hj => ?_, fun j u l h1 h2 => ?_⟩
  · rw [List.getElem?_drop] at hj
    have hlt : k + j < vs.length := (List.getElem?_eq_some_iff.1 hj).1
    have hl := h.len
    rw [if_neg (by omega)] at had
    obtain rfl := Option.some.inj had
    have e2 : (⟨g, off + k, none⟩ : Addr).add j = ⟨g, off + (k + j), none⟩ := by unfold Addr.add; split <;> simp_all; omega
    rw [e2]
    exact h.cell _ u hj
  · rw [List.getElem?_drop] at h1 h2
    exact h.row _ u l h1 h2
theorem below_two' (w : World) (o p : Obj) : Below w.heap.size w ((w.alloc o).alloc p) := ((Below.refl _ _).alloc (Nat.le_refl _) _).alloc (by simp) _
theorem rows_fresh1 {S : Nat → Prop} (w : World) (o : Obj) : RowsF S w.heap.size ((w.alloc o).alloc (.cells #[] 28)) (.slice (some ⟨w.heap.size + 1, 0, none⟩) 0 0) [] := rows_fresh (w.alloc o) (by simp) (by omega)
theorem held_ins1 (w : World) (u : Value) {o : Obj} {w1 : World} {n c : Nat} (hg : ((w.alloc o).alloc (.cells #[u] 28)).drew.grownBy w1 (Value.slice (some ⟨w.heap.size, 0, none⟩) n c).ownBlock) : Held w1 (w.heap.size + 1) 28 [u] := by
  have h : Held ((w.alloc o).alloc (.cells #[u] 28)) (w.heap.size + 1) 28 [u] := Held.made (l := [u]) (by simp)
  exact h.drew.grown hg (fun e => by simp [Value.ownBlock] at e)
theorem held_ins2 (w : World) (u : Value) {o : Obj} {w1 : World} {n c : Nat} (hg : ((w.alloc (.cells #[u] 28)).alloc o).drew.grownBy w1 (Value.slice (some ⟨w.heap.size + 1, 0, none⟩) n c).ownBlock) : Held w1 w.heap.size 28 [u] := by
  have h : Held ((w.alloc (.cells #[u] 28)).alloc o) w.heap.size 28 [u] := (Held.new w 28 [u]).alloc o
  exact h.drew.grown hg (fun e => by simp [Value.ownBlock] at e)
/-- One step 'append(rows, rows...)' of 'insert'. -/
theorem step_ins1 {S : Nat → Prop} {ops : Array Oper} {o : Oper} {a : Act} {w0 wa : World} {Q : Exit → Act → World → Prop} {K : Act → World → Prop} {E : Prop} (hg : o.guard = none) (s x : Operand) (hop : o.op = Op.call { callee := Callee.builtin Builtin.append, args := #[s, x], argTypes := #[22, 22] })
    {v : Value} {ls ms : List (List Nat)} {us : List Value} {ad : Addr} {c n : Nat} (hs : a.eval s = v) (hx : a.eval x = .slice (some ad) n c) (hn : ms.length = n) (hul : us.length = ms.length)
    (hsrc : ∀ w', Below w0.heap.size w0 w' → (∀ (j : Nat) (u : Value), us[j]? = some u → w'.cell? (ad.add j) = some u) ∧ ∀ (j : Nat) (u : Value) (l : List Nat), us[j]? = some u → ms[j]? = some l → Fz S w' u (toI l))
    (hS : ∀ k, S k → k < w0.heap.size) (hb : Below w0.heap.size w0 wa) (h : RowsF S w0.heap.size wa v ls) (hl : ls.length + n < 1000000)
    (hK : ∀ v' w', RowsF S w0.heap.size w' v' (ls ++ ms) → Below w0.heap.size w0 w' → wa.grownBy w' v.ownBlock → K (a.put o.dst v') w') :
    if Region.wanted o (yielded ops a.tmps) = true then Oper.wp Try.prog o a wa K Q else E := by
  subst hn
  refine step_appR hg s x hop hs hx h hul (hsrc wa hb) (fun k hk e => by have := (h.own k e).1; have := hS k hk; omega) hl hb.size fun v' w' r1 r2 _ => ?_
  exact hK v' w' r1 (hb.grown r2 hb.size fun k hk => (h.own k hk).1) r2
theorem step_ins2 {S : Nat → Prop} {ops : Array Oper} {o : Oper} {a : Act} {w0 wa : World} {Q : Exit → Act → World → Prop} {K : Act → World → Prop} {E : Prop} (hg : o.guard = none) (s x : Operand) (hop : o.op = Op.call { callee := Callee.builtin Builtin.append, args := #[s, x], argTypes := #[22, 22] })
    {v u : Value} {ls : List (List Nat)} {y : List Nat} {b : Nat} (hs : a.eval s = v) (hx : a.eval x = .slice (some ⟨b, 0, none⟩) 1 1) (hu : Fz S w0 u (toI y))
    (hS : ∀ k, S k → k < w0.heap.size) (hb : Below w0.heap.size w0 wa) (h : RowsF S w0.heap.size wa v ls) (hc : Held wa b 28 [u]) (hl : ls.length < 1000000)
    (hK : ∀ v' w', RowsF S w0.heap.size w' v' (ls ++ [y]) → Below w0.heap.size w0 w' → K (a.put o.dst v') w') :
    if Region.wanted o (yielded ops a.tmps) = true then Oper.wp Try.prog o a wa K Q else E := by
  refine step_appF hg s x hop h (hu.kept (Sm.of_below hb)) hc (fun k hk e => by have := (h.own k e).1; have := hS k hk; omega) hl hb.size hs hx fun v' w' r1 r2 _ => ?_
  exact hK v' w' r1 (hb.grown r2 hb.size fun k hk => (h.own k hk).1)
/-- What a function that gives rows returns. -/
def RowsV (ls : List (List Nat)) (w : World) (e : Ending) (w' : World) : Prop := ∃ v', e = .returned v' ∧ RowsF (fun _ => True) w.heap.size w' v' ls ∧ Below w.heap.size w w'
/-- 'append(rows, nil...)'. -/
theorem step_none {ops : Array Oper} {o : Oper} {a : Act} {wa : World} {Q : Exit → Act → World → Prop} {K : Act → World → Prop} {E : Prop} (hg : o.guard = none) (s x : Operand) (hop : o.op = Op.call { callee := Callee.builtin Builtin.append, args := #[s, x], argTypes := #[22, 22] })
    {b n cap c : Nat} (hs : a.eval s = .slice (some ⟨b, 0, none⟩) n cap) (hx : a.eval x = .slice none 0 c) (hn : n ≤ cap) (hK : K (a.put o.dst (.slice (some ⟨b, 0, none⟩) n cap)) wa) :
    if Region.wanted o (yielded ops a.tmps) = true then Oper.wp Try.prog o a wa K Q else E := by
  have hw : Region.wanted o (yielded ops a.tmps) = true := by simp [Region.wanted, hg]
  rw [if_pos hw]
  obtain ⟨i, hi1, hz0, hz1, hz2⟩ := info_parts infoR
  have hrun := run_append_room_src (P := Try.prog) wa 22 22 o.type 28 i Try.underlying22 hi1 b 0 n cap (.slice none 0 c) 0 [] (Go.Src.ofNil wa Try.underlying22 c) (by omega) (fun j hj => by simp at hj) (fun j hj => by simp at hj)
  unfold Oper.wp
  simp [execOp, hop, resolve, invoke, builtin, hs, hx, Result.andThen]
  rw [hrun]
  exact hK
theorem rows_one1 {S : Nat → Prop} {B : Nat} {w : World} {v : Value} {l : List Nat} (h : RowsF S B w v [l]) : ∃ g c, v = .slice (some ⟨g, 0, none⟩) 1 c ∧ 1 ≤ c := by
  obtain ⟨vs, ho, _⟩ := h
  rcases ho.2 with ⟨_, hn⟩ | ⟨g, cap, cur, rfl, _, _, h1, _⟩
  · simp at hn
  · exact ⟨g, cap, rfl, h1⟩
theorem held_n1 (w : World) (u : Value) (o : Obj) : Held ((w.alloc o).alloc (.cells #[u] 28)).drew (w.heap.size + 1) 28 [u] := (Held.made (l := [u]) (w := w.alloc o) (by simp)).drew
theorem held_n2 (w : World) (u : Value) (o : Obj) : Held ((w.alloc (.cells #[u] 28)).alloc o).drew w.heap.size 28 [u] := ((Held.new w 28 [u]).alloc o).drew

end Go.Proofs.Ytdackakjcnnofaa

/- The types of blocks; a store into a slice of the call's own. -/
namespace Go.Proofs.Ytdackakjcnnofaa
open Go.RowKit

/-- The type of a block of cells. -/
def typeAt (w : World) (k : Nat) : Option TypeId := match w.heap[k]? with | some (.cells _ t _) => some t | _ => none
theorem Held.ty {w : World} {g : Nat} {t : TypeId} {l : List Value} (h : Held w g t l) : typeAt w g = some t := by
  have h' : w.heap[g]? = some (.cells l.toArray t (0, 0)) := h
  unfold typeAt; rw [h']
theorem own_ty {w : World} {B : Nat} {e : TypeId} {size n : Nat} {v : Value} {xs : List Value} (h : w.ownsRow B e size v n xs) {k : Nat} (hk : v.ownBlock = some k) : typeAt w k = some e := by
  rcases h.2 with ⟨rfl, _⟩ | ⟨g, cap, cur, rfl, _, hh, _⟩
  · simp [Value.ownBlock] at hk
  · obtain rfl : g = k := by simpa [Value.ownBlock] using hk
    unfold typeAt; rw [hh]
theorem RowsF.ty {S : Nat → Prop} {B : Nat} {w : World} {v : Value} {ls : List (List Nat)} (h : RowsF S B w v ls) {k : Nat} (hk : v.ownBlock = some k) : typeAt w k = some 28 := by
  obtain ⟨vs, ho, _⟩ := h
  exact own_ty ho hk
theorem ty_ne {w : World} {k k' : Nat} (h : typeAt w k ≠ typeAt w k') : k ≠ k' := fun e => h (by rw [e])
theorem ty_block {w w' : World} {k : Nat} (h : w'.heap[k]? = w.heap[k]?) : typeAt w' k = typeAt w k := by unfold typeAt; rw [h]
theorem ty_lt {w : World} {k : Nat} {t : TypeId} (h : typeAt w k = some t) : k < w.heap.size := by
  refine Nat.lt_of_not_le fun hge => ?_
  unfold typeAt at h
  rw [Array.getElem?_eq_none hge] at h
  cases h
/-- All but one block. -/
theorem Sm.put {w : World} (g j : Nat) (u : Value) : Sm (fun k => k ≠ g) w (w.setCell ⟨g, j, none⟩ u) := ⟨rfl, rfl, rfl, by simp [World.setCell], fun k hk _ => Below.heap_setCell w ⟨g, j, none⟩ u k hk⟩
theorem OwnI.stored {B g cap : Nat} {w : World} {xs : List Int} (h : OwnI 3 B w (.slice (some ⟨g, 0, none⟩) xs.length cap) xs) (j : Nat) (y : Int) :
    OwnI 3 B (w.setCell ⟨g, j, none⟩ (.int .i64 y)) (.slice (some ⟨g, 0, none⟩) xs.length cap) (xs.set j y) := by
  have h' : w.ownsRow B 3 1 (.slice (some ⟨g, 0, none⟩) xs.length cap) xs.length (xs.map (Value.int .i64)) := h
  have := (World.ownsRow.stored h' j (.int .i64 y)).1
  unfold OwnI
  rw [List.length_set, List.map_set]
  exact this
theorem OwnI.free {B g cap : Nat} {w : World} {n : Nat} {xs : List Int} (h : OwnI 3 B w (.slice (some ⟨g, 0, none⟩) n cap) xs) (j : Nat) (hn : n = xs.length) : w.frozen? ⟨g, j, none⟩ = false := by
  subst hn
  exact World.ownsRow.frozenAt h j
theorem OwnI.cellN {B g cap : Nat} {w : World} {n : Nat} {xs : List Int} (h : OwnI 3 B w (.slice (some ⟨g, 0, none⟩) n cap) xs) (hn : n = xs.length) {j : Nat} (hj : j < xs.length) : w.cell? ⟨g, j, none⟩ = some (.int .i64 xs[j]) := by
  subst hn
  have h' : w.ownsRow B 3 1 (.slice (some ⟨g, 0, none⟩) xs.length cap) xs.length (xs.map (Value.int .i64)) := h
  rw [World.ownsRow.cellAt h' j (by omega)]
  simp [List.getElem?_eq_getElem hj]
/-- The block of a slice that is not empty. -/
theorem OwnI.block {B : Nat} {w : World} {v : Value} {xs : List Int} (h : OwnI 3 B w v xs) (hx : 0 < xs.length) : ∃ g cap, v = .slice (some ⟨g, 0, none⟩) xs.length cap ∧ B ≤ g ∧ g < w.heap.size := by
  rcases h.2 with ⟨rfl, hn⟩ | ⟨g, cap, cur, rfl, hb, hg, _⟩
  · omega
  · exact ⟨g, cap, rfl, hb, (Array.getElem?_eq_some_iff.1 hg).1⟩
theorem own_sm' {S : Nat → Prop} {w w' : World} {B : Nat} {v : Value} {xs : List Int} (h : OwnI 3 B w v xs) (hs : Sm S w w') (hS : ∀ k, v.ownBlock = some k → S k) : OwnI 3 B w' v xs := own_sm h hs hS
end Go.Proofs.Ytdackakjcnnofaa

/- Values of one cell stored into a field: the world behind is a letter; whole structs. -/
namespace Go.Proofs.Ytdackakjcnnofaa
open Go.RowKit

theorem run_storeVar_one {P : Program} (w : World) (b o : Nat) (ty : TypeId) (v : Value) (hc : (w.cell? ⟨b, o, none⟩).isSome = true) (hf : w.frozen? ⟨b, o, none⟩ = false) (hi : (P.info? ty).map (·.size) = some 1) (hv : v.cells = #[v]) (h1 : v.oneCell' = true) :
    (storeVar ty ⟨b, o, none⟩ v).run P w = .ok () (w.setCell ⟨b, o, none⟩ v) := by
  have := run_storeCells_cells (P := P) b o [v] 0 w (fun j hj => by
      obtain rfl : j = 0 := by simpa using hj
      simpa using hc) (fun j hj => by
      obtain rfl : j = 0 := by simpa using hj
      simpa using hf) (fun u hu => by rw [List.mem_singleton.1 hu]; exact h1)
  cases hq : P.info? ty with
  | none => simp [hq] at hi
  | some i =>
    have hs : i.size = 1 := by simpa [hq] using hi
    simp only [Nat.add_zero] at this
    simp [storeVar, sizeOf, typeInfo, hq, hv, hs, this]
    rfl
theorem wpl_store_one {ty : TypeId} (hi : (Try.prog.info? ty).map (·.size) = some 1) {ops : Array Oper} {rest : List Oper} {op : Oper} {a : Act} {w : World} {Q : Exit → Act → World → Prop} (hg : op.guard = none) (x y : Operand) (ho : op.op = .store ty x y)
    (b i : Nat) {t : TypeId} {l : List Value} {v : Value} (hx : a.eval x = .pointer (some ⟨b, i, none⟩)) (hy : a.eval y = v) (hv : v.cells = #[v]) (h1 : v.oneCell' = true) (hil : i < l.length) (h0 : Held w b t l)
    (hK : ∀ W, W = w.setCell ⟨b, i, none⟩ v → wpList Try.prog ops Q rest (a.put op.dst undef) W) : wpList Try.prog ops Q (op :: rest) a w := by
  refine wpList_plain hg fun K' hK' => ?_
  have hc : (w.cell? ⟨b, i, none⟩).isSome = true := by rw [h0.at (List.getElem?_eq_getElem hil)]; rfl
  have hK2 := hK' _ _ (hK _ rfl)
  unfold Oper.wp execOp
  simp only [ho, hx, hy, Instr.storeAt, Instr.sureAddr, Sem.run_bind, Sem.run_pure, Result.andThen_ok, run_storeVar_one w b i ty v hc (h0.free i) hi hv h1]
  exact hK2
theorem size_rows : (Try.prog.info? 22).map (·.size) = some 1 := by kernel_rfl
theorem size_ints : (Try.prog.info? 28).map (·.size) = some 1 := by kernel_rfl
theorem size_int : (Try.prog.info? 3).map (·.size) = some 1 := by kernel_rfl
/-- A whole struct is stored over a block. -/
theorem wpl_store_all {ty : TypeId} {m : Nat} (hi : (Try.prog.info? ty).map (·.size) = some m) {ops : Array Oper} {rest : List Oper} {op : Oper} {a : Act} {w : World} {Q : Exit → Act → World → Prop} (hg : op.guard = none) (x y : Operand) (ho : op.op = .store ty x y)
    (b : Nat) (l l0 : List Value) (hl : l.length = m) (hl0 : l0.length = m) (h1 : ∀ v ∈ l, v.oneCell' = true) (hx : a.eval x = .pointer (some ⟨b, 0, none⟩)) (hy : a.eval y = .agg l.toArray) (h0 : Held w b ty l0)
    (hK : ∀ W, Held W b ty l → Sm (fun k => k ≠ b) w W → W.heap.size = w.heap.size → wpList Try.prog ops Q rest (a.put op.dst undef) W) : wpList Try.prog ops Q (op :: rest) a w := by
  have ht : w.there b 0 l.toArray.size := by
    have := h0.there
    rw [hl0] at this
    simpa [hl] using this
  refine wpList_store_mid hg ty x y ho b 0 l.toArray hx hy ht (by simpa [hl] using hi) (all_oneCell_toArray h1) ?_
  exact hK _ (h0.over l (by rw [hl, hl0])) (Sm.setCells _ _ _ _) (setCells_size _ _ _ _)
end Go.Proofs.Ytdackakjcnnofaa

/- Slices of rows of whole numbers (turned from Rw, Gr). -/
namespace Go.Proofs.Ytdackakjcnnofaa
open Go.RowKit

/-- A slice of rows that are only read; its own cells from block B on. -/
def RowsJ (S : Nat → Prop) (B : Nat) (w : World) (v : Value) (ls : List (List Int)) : Prop :=
  ∃ vs : List Value, w.ownsRow B 28 1 v ls.length vs ∧ ∀ (i : Nat) (u : Value) (l : List Int), vs[i]? = some u → ls[i]? = some l → Fz S w u l
theorem RowsJ.nil (S : Nat → Prop) (B : Nat) (w : World) : RowsJ S B w (.slice none 0 0) [] := ⟨[], World.ownsRow_nil w B 28 1, by simp⟩
theorem RowsJ.kept {S S' : Nat → Prop} {B : Nat} {w w' : World} {v : Value} {ls : List (List Int)} (h : RowsJ S B w v ls) (hs : Sm S' w w') (hSS : ∀ k, S k → S' k) (hv : ∀ k, v.ownBlock = some k → S' k) : RowsJ S B w' v ls := by
  obtain ⟨vs, ho, hr⟩ := h
  exact ⟨vs, own_sm ho hs hv, fun i u l h1 h2 => (hr i u l h1 h2).kept (hs.weak fun k _ hk => hSS k hk)⟩
theorem RowsJ.mono {S S' : Nat → Prop} {B : Nat} {w : World} {v : Value} {ls : List (List Int)} (h : RowsJ S B w v ls) (hs : ∀ k, S k → S' k) : RowsJ S' B w v ls := by
  obtain ⟨vs, ho, hr⟩ := h
  exact ⟨vs, ho, fun i u l h1 h2 => (hr i u l h1 h2).mono hs⟩
theorem RowsJ.alloc {S : Nat → Prop} {B : Nat} {w : World} {v : Value} {ls : List (List Int)} (h : RowsJ S B w v ls) (o : Obj) : RowsJ S B (w.alloc o) v ls :=
  h.kept (S' := fun _ => True) (Sm.of_below ((Below.refl _ _).alloc (Nat.le_refl _) _)) (fun _ _ => trivial) (fun _ _ => trivial)
theorem RowsJ.drew {S : Nat → Prop} {B : Nat} {w : World} {v : Value} {ls : List (List Int)} (h : RowsJ S B w v ls) : RowsJ S B w.drew v ls := h
theorem RowsJ.form {S : Nat → Prop} {B : Nat} {w : World} {v : Value} {ls : List (List Int)} (h : RowsJ S B w v ls) : ∃ a c, v = .slice a ls.length c := by
  obtain ⟨vs, ⟨_, h2⟩, _⟩ := h
  rcases h2 with ⟨rfl, hn⟩ | ⟨g, cap, cur, rfl, _⟩
  · exact ⟨none, 0, by rw [hn]⟩
  · exact ⟨_, _, rfl⟩
theorem RowsJ.at {S : Nat → Prop} {B : Nat} {w : World} {v : Value} {ls : List (List Int)} (h : RowsJ S B w v ls) (i : Nat) (hi : i < ls.length) :
    ∃ g cap u, v = .slice (some ⟨g, 0, none⟩) ls.length cap ∧ B ≤ g ∧ g < w.heap.size ∧ w.cell? ⟨g, i, none⟩ = some u ∧ Fz S w u (ls[i]) := by
  obtain ⟨vs, ho, hr⟩ := h
  have hl : vs.length = ls.length := by have := ho.1; omega
  rcases ho.2 with ⟨rfl, hn⟩ | ⟨g, cap, cur, rfl, hg, hh, _⟩
  · omega
  · have hcell := World.ownsRow.cellAt ho i (by omega)
    have hvi : vs[i]? = some (vs[i]'(by omega)) := List.getElem?_eq_getElem (by omega)
    exact ⟨g, cap, vs[i]'(by omega), rfl, hg, (Array.getElem?_eq_some_iff.1 hh).1, by rw [hcell, hvi], hr i _ _ hvi (List.getElem?_eq_getElem hi)⟩
theorem run_appJ {ty : TypeId} {S : Nat → Prop} {B b : Nat} {w : World} {v u : Value} {ls : List (List Int)} {l : List Int} (h : RowsJ S B w v ls) (hu : Fz S w u l) (hb : Held w b 28 [u]) (hS : ∀ k, S k → v.ownBlock ≠ some k) (hl : ls.length < 1000000) (hB : B ≤ w.heap.size) :
    ∃ v' w', (Builtin.append_ #[22, 22] ty #[v, .slice (some ⟨b, 0, none⟩) 1 1]).run Try.prog w = .ok v' w' ∧ RowsJ S B w' v' (ls ++ [l]) ∧ w.grownBy w' v.ownBlock ∧ (v'.ownBlock = v.ownBlock ∨ v'.ownBlock = some w.heap.size) := by
  obtain ⟨i, hi1, hz0, hz1, hz2⟩ := info_parts infoR
  obtain ⟨vs, ho, hr⟩ := h
  have hvl : vs.length = ls.length := by have := ho.1; omega
  obtain ⟨v', w', hrun, r1, r2, _, r4⟩ := run_append_own_at (P := Try.prog) w B 22 ty 28 i (.slice none 0 0) 1 24 Try.underlying22 hi1 hz0 hz1 hz2 rfl (by decide) v ls.length vs ho ⟨b, 0, none⟩ 1 1 [u] rfl
    (fun j x hj => by
      match j, hj with
      | 0, hj => simp at hj; subst hj; simpa [Addr.add] using hb.at (i := 0) rfl)
    (fun x hx => by simp at hx; subst hx; exact hu.one) (by unfold maxLen; omega) (by omega) hB
  have hsm : Sm S w w' := Sm.of_grown r2 fun k hk e => hS k hk e.symm
  refine ⟨v', w', hrun, ⟨vs ++ [u], by rw [List.length_append]; exact r1, fun i x y h1 h2 => ?_⟩, r2, r4⟩
  by_cases hi : i < vs.length
  · rw [List.getElem?_append_left hi] at h1
    rw [List.getElem?_append_left (by omega)] at h2
    exact (hr i x y h1 h2).kept hsm
  · rw [List.getElem?_append_right (by omega)] at h1
    rw [List.getElem?_append_right (by omega), ← hvl] at h2
    obtain e : i - vs.length = 0 := by
      cases hk : i - vs.length with
      | zero => rfl
      | succ n => rw [hk] at h1; simp at h1
    rw [e] at h1 h2
    simp at h1 h2
    subst h1; subst h2
    exact hu.kept hsm

theorem wpList_appJ {ops : Array Oper} {o : Oper} {a : Act} {w : World} {Q : Exit → Act → World → Prop} {rest : List Oper} (hg : o.guard = none) (s y : Operand)
    (hop : o.op = Op.call { callee := Callee.builtin Builtin.append, args := #[s, y], argTypes := #[22, 22] }) (S : Nat → Prop) (B b : Nat) (v u : Value) (ls : List (List Int)) (l : List Int) (hs : a.eval s = v) (h : RowsJ S B w v ls) (hu : Fz S w u l)
    (hy : a.eval y = .slice (some ⟨b, 0, none⟩) 1 1) (hb : Held w b 28 [u]) (hS : ∀ k, S k → v.ownBlock ≠ some k) (hl : ls.length < 1000000) (hB : B ≤ w.heap.size)
    (hK : ∀ v' w', RowsJ S B w' v' (ls ++ [l]) → w.grownBy w' v.ownBlock → (v'.ownBlock = v.ownBlock ∨ v'.ownBlock = some w.heap.size) → wpList Try.prog ops Q rest (a.put o.dst v') w') : wpList Try.prog ops Q (o :: rest) a w := by
  refine wpList_plain hg fun K' hK' => ?_
  obtain ⟨v', w', hrun, r1, r2, r3⟩ := run_appJ (ty := o.type) h hu hb hS hl hB
  unfold Oper.wp
  simp [execOp, hop, resolve, invoke, builtin, hs, hy, Result.andThen]
  rw [hrun]
  exact hK' _ _ (hK v' w' r1 r2 r3)
def GrowJ (H : Nat) (w : World) (v : Value) (ls : List (List Int)) (S : Nat → Prop) : Prop := RowsJ S H w v ls ∧ ∀ k, S k → k < w.heap.size ∧ v.ownBlock ≠ some k
theorem GrowJ.nil (H : Nat) (w : World) : GrowJ H w (.slice none 0 0) [] (fun _ => False) := ⟨RowsJ.nil _ _ _, fun _ h => h.elim⟩
theorem RowsJ.own {S : Nat → Prop} {B : Nat} {w : World} {v : Value} {ls : List (List Int)} (h : RowsJ S B w v ls) : ∀ k, v.ownBlock = some k → B ≤ k ∧ k < w.heap.size := by
  obtain ⟨vs, ho, _⟩ := h
  exact fun k hk => World.ownsRow.lt ho k hk
theorem GrowJ.grow {H : Nat} {wr w2 : World} {v u : Value} {ls : List (List Int)} {l : List Int} {S : Nat → Prop} (h : GrowJ H wr v ls S) (hb : Below wr.heap.size wr w2) (hu : OwnI 3 wr.heap.size w2 u l) (hl : l.length ≤ 1000000) :
    GrowJ H w2 v ls (fun k => S k ∨ u.ownBlock = some k) ∧ Fz (fun k => S k ∨ u.ownBlock = some k) w2 u l := by
  refine ⟨⟨(h.1.kept (S' := fun _ => True) (Sm.of_below hb) (fun _ _ => trivial) (fun _ _ => trivial)).mono fun k hk => .inl hk, fun k hk => ?_⟩, OwnI.fz hu hl fun k hk => .inr hk⟩
  rcases hk with hk | hk
  · exact ⟨Nat.lt_of_lt_of_le (h.2 k hk).1 hb.size, (h.2 k hk).2⟩
  · have h1 := hu.lt k hk
    refine ⟨h1.2, fun e => ?_⟩
    have h2 := h.1.own k e
    omega
theorem GrowJ.app {H b : Nat} {w2 w3 w4 : World} {v v4 : Value} {ls ls4 : List (List Int)} {S : Nat → Prop} (h : GrowJ H w2 v ls S) (hb : Below w2.heap.size w2 w3) (hr : RowsJ S H w4 v4 ls4) (hg : w3.grownBy w4 v.ownBlock) (ho : v4.ownBlock = v.ownBlock ∨ v4.ownBlock = some w3.heap.size) (_ : b = b) :
    GrowJ H w4 v4 ls4 S := by
  refine ⟨hr, fun k hk => ⟨?_, ?_⟩⟩
  · have := (h.2 k hk).1; have := hb.size; have := hg.size; omega
  · rcases ho with ho | ho
    · rw [ho]; exact (h.2 k hk).2
    · rw [ho]; intro e
      have h1 := (h.2 k hk).1
      have h2 := hb.size
      have : w3.heap.size = k := by simpa using e
      omega

theorem RowsJ.args {S : Nat → Prop} {B : Nat} {w : World} {v : Value} {ls : List (List Int)} (h : RowsJ S B w v ls) (hl : ls.length ≤ 1000000) : Args w v ls := by
  by_cases h0 : 0 < ls.length
  · obtain ⟨g, cap, u, rfl, _, hg, _, _⟩ := h.at 0 h0
    have hc : ls.length ≤ cap := by
      obtain ⟨vs, ho, _⟩ := h
      rcases ho.2 with ⟨h', _⟩ | ⟨g', cap', cur, h', _, _, hn, _⟩
      · simp at h'
      · obtain ⟨_, _, rfl⟩ := Value.slice.inj h'; exact hn
    refine ⟨_, cap, rfl, by omega, hc, fun _ => ⟨g, 0, rfl, hg, fun i hi => ?_⟩⟩
    obtain ⟨g', cap', u', e, _, _, hc', hf⟩ := h.at i hi
    obtain ⟨e1, -, -⟩ := Value.slice.inj e
    have : g = g' := by simpa using e1
    subst this
    exact ⟨u', by rw [Nat.zero_add]; exact hc', hf.ints⟩
  · obtain ⟨a, c, rfl⟩ := h.form
    have hn : ls = [] := List.eq_nil_of_length_eq_zero (by omega)
    exact ⟨a, c, rfl, by omega, by rw [hn]; exact Nat.zero_le _, fun hne => absurd hn hne⟩
end Go.Proofs.Ytdackakjcnnofaa

/- Walks of small slice functions. -/
namespace Go.Proofs.Ytdackakjcnnofaa
open Go.RowKit

set_option maxHeartbeats 400000 in
theorem Clone_any (v : Value) (xs : List Int) (w : World) (hv : Ints w v xs) :
    Calls Try.prog 23 #[v] w fun e w' => ∃ v', e = .returned v' ∧ OwnI 3 w.heap.size w' v' xs ∧ Below w.heap.size w w' := by
  obtain ⟨a, c, rfl, hlen, hcl, hc⟩ := hv
  obtain ⟨i0, hi, hz0, hz1, hz2⟩ := info_parts info3
  have q22 : ∀ (w : World) (a : Option Addr) (n c n' c' : Nat), (binOp .eql 28 (.slice a n c) (.slice none n' c')).run Try.prog w = .ok (.bool a.isNone) w := fun w a n c n' c' => Lib.run_eql_slice_nil w _ _ a n c n' c' Try.underlying28
  have A := Lib.hid hc
  clear hc
  cases a with
  | none =>
    have hx : xs = [] := by
      by_cases h : xs = []
      · exact h
      · obtain ⟨b, off, h1, _⟩ := A.out h; cases h1
    subst hx
    go_enter Try.func23, Try.ntmps23
    go_wp2
    go_ret
    exact ⟨_, rfl, OwnI.nil _ _ _, Below.refl _ _⟩
  | some ad =>
    go_enter Try.func23, Try.ntmps23
    go_wp2_with (at_builtin; refine wpList_append_own _ rfl _ _ 28 rfl w.heap.size 3 i0 (.int .i64 0) 1 8 Try.underlying28 hi hz0 hz1 hz2 rfl (by decide) _ _ _ rfl (World.ownsRow_made w #[] 0 (Nat.le_refl _) (Nat.zero_le _) rfl) ad xs.length c (xs.map (Value.int .i64)) rfl ?qc1 ?qc2 ?qc3 ?qc4 ?qc5 ?qc6 ?_)
    case qc1 => simp
    case qc2 =>
      intro j u hj
      have hjn : j < xs.length := by
        have := (List.getElem?_eq_some_iff.1 hj).1
        simpa using this
      obtain ⟨b, off, h1, hlt, hcell⟩ := A.out (by intro h; simp [h] at hjn)
      obtain rfl : ad = ⟨b, off, none⟩ := by simpa using h1
      rw [Addr.add_lit]
      refine Lib.cell?_alloc_some _ ?_
      rw [hcell j hjn]
      simpa [List.getElem?_eq_getElem hjn] using hj
    case qc3 => intro u hu; obtain ⟨x, _, rfl⟩ := List.mem_map.1 hu; rfl
    case qc4 => unfold maxLen; omega
    case qc5 => omega
    case qc6 => simp
    intro v' w1 hown hgrow hnil
    go_wp2
    go_ret
    refine ⟨v', rfl, by unfold OwnI; simpa using hown, ?_⟩
    exact ((Below.refl _ w).alloc (Nat.le_refl _) _).grown hgrow (by simp) (by intro k hk; simp [Value.ownBlock] at hk; omega)

theorem ints_take {w : World} {a : Option Addr} {xs : List Int} {c n : Nat} (hv : Ints w (.slice a xs.length c) xs) (hn : n ≤ xs.length) : Ints w (.slice a n c) (xs.take n) := by
  obtain ⟨a', c', he, hlen, hcl, hc⟩ := hv
  obtain ⟨rfl, _, rfl⟩ := Value.slice.inj he
  have hl : (xs.take n).length = n := by simp; omega
  refine ⟨a, c, by rw [hl], by omega, by omega, fun hne => ?_⟩
  obtain ⟨b, off, rfl, hlt, hcell⟩ := hc (by intro h; simp [h] at hne)
  exact ⟨b, off, rfl, hlt, fun i hi => by rw [hcell i (by omega)]; simp⟩

set_option maxHeartbeats 400000 in
theorem list_any (v : Value) (xs : List Int) (w : World) (hv : Ints w v xs) :
    Calls Try.prog 18 #[v] w fun e w' => ∃ v', e = .returned v' ∧ OwnI 3 w.heap.size w' v' (xs.take 30) ∧ Below w.heap.size w w' := by
  have hv' := hv
  obtain ⟨a, c, rfl, hlen, hcl, hc⟩ := hv
  clear hc
  by_cases h9 : 30 < xs.length
  · have h := ints_take hv' (n := 30) (by omega)
    clear hv'
    go_enter Try.func18, Try.ntmps18
    go_wp2_with (go_at_call 23; refine (Clone_any _ _ _ h).mono ?_; rintro e w' ⟨v', rfl, ho, hb⟩)
    go_ret
    exact ⟨v', rfl, ho, hb⟩
  · have h := hv'
    clear hv'
    go_enter Try.func18, Try.ntmps18
    go_wp2_with (go_at_call 23; refine (Clone_any _ _ _ h).mono ?_; rintro e w' ⟨v', rfl, ho, hb⟩)
    go_ret
    exact ⟨v', rfl, by rw [List.take_of_length_le (by omega)]; exact ho, hb⟩

end Go.Proofs.Ytdackakjcnnofaa

/- law: table (a copy of a slice of rows: at most 6 rows, at most 30 numbers each). -/
namespace Go.Proofs.Ytdackakjcnnofaa
open Go.RowKit
attribute [local go_sem] Oper.semAt_some

def tabA (L : List (List Int)) : List (List Int) := (L.take 6).map fun p => p.take 30
theorem take6 (L : List (List Int)) (k : Nat) (h6 : k < 6) (h : k < L.length) : tabA (L.take (k + 1)) = tabA (L.take k) ++ [L[k].take 30] := by
  unfold tabA
  rw [List.take_take, List.take_take, Nat.min_eq_right (by omega), Nat.min_eq_right (by omega), List.take_succ_eq_append_getElem h, List.map_append]
  rfl
theorem take6_no (L : List (List Int)) (k : Nat) (h6 : ¬ k < 6) : tabA (L.take (k + 1)) = tabA (L.take k) := by
  unfold tabA
  rw [List.take_take, List.take_take, Nat.min_eq_left (by omega), Nat.min_eq_left (by omega)]
theorem tabA_len (L : List (List Int)) : (tabA L).length ≤ 6 := by
  unfold tabA
  rw [List.length_map, List.length_take]; omega

set_option maxRecDepth 100000 in
set_option maxHeartbeats 1000000 in
theorem table_any (v : Value) (L : List (List Int)) (w : World) (h : Args w v L) : Calls Try.prog 7 #[v] w fun e w' => ∃ u S, e = .returned u ∧ GrowJ w.heap.size w' u (tabA L) S ∧ Below w.heap.size w w' := by
  have HA := Lib.hid h
  have hL := h.len
  have LA := Lib.hid (fun u xs w' (hu : Ints w' u xs) => list_any u xs w' hu)
  obtain ⟨a, c, rfl⟩ := h.form
  clear h
  go_enter Try.func7, Try.ntmps7
  go_wp2_with fail
  go_loopw [3, 8] (fun vr ix wr => ∃ (k : Nat) (S : Nat → Prop), k ≤ L.length ∧ ix = .int .i64 k ∧ GrowJ w.heap.size wr vr (tabA (L.take k)) S ∧ Below w.heap.size w wr) (fun _ ix _ => L.length - (intOf ix).toNat)
  case atStart => exact ⟨0, _, Nat.zero_le _, rfl, GrowJ.nil _ _, Below.refl _ _⟩
  case round =>
    obtain ⟨k, S, hk, rfl, hg, hb⟩ := hrel
    have HG := Lib.hid hg
    have HB := Lib.hid hb
    clear hg hb
    by_cases hlt : k < L.length
    · have hki : (k : Int) < (L.length : Int) := by omega
      obtain ⟨b, off, c2, u, e2, hbl, hcu, hu⟩ := (HA.out.below HB.out).at k hlt
      obtain ⟨rfl, -, -⟩ := Value.slice.inj e2
      have HU := Lib.hid (LA.out u _ wr hu)
      obtain ⟨au, cu, rfl, -, -, -⟩ := hu
      clear e2
      by_cases h6 : k < 6
      · have h6i : (k : Int) < 6 := by omega
        have HT := Lib.hid (take6 L k h6 hlt)
        have hrl := HG.out.1.form
        obtain ⟨x, hx⟩ : ∃ x, L[k] = x := ⟨_, rfl⟩
        rw [hx] at HU HT hcu
        obtain ⟨n, hn⟩ : ∃ n, x.length = n := ⟨_, rfl⟩
        rw [hn] at HU
        rw [hn] at hcu
        have HLE := Lib.hid (show (x.take 30).length ≤ 1000000 by rw [List.length_take]; omega)
        have HTL := Lib.hid (show (tabA (L.take k)).length < 1000000 by have := tabA_len (L.take k); omega)
        clear hx hn hrl
        go_wp2_with (first
          | (go_at_call 18; refine HU.out.mono ?_; rintro e w2 ⟨v2, rfl, ho2, hb2⟩; obtain ⟨a2, n2, c22, rfl⟩ := own_form ho2; have HGW := Lib.hid (HG.out.grow hb2 ho2 HLE.out); have HB2 := Lib.hid hb2; clear ho2 hb2)
          | (at_builtin; refine wpList_appJ rfl _ _ rfl (fun j => S j ∨ (Value.slice a2 n2 c22).ownBlock = some j) w.heap.size w2.heap.size u3 (.slice a2 n2 c22) (tabA (L.take k)) (x.take 30) rfl (HGW.out.1.1.kept (S' := fun _ => True) (Sm.of_below ((Below.refl _ _).alloc (Nat.le_refl _) _)) (fun _ _ => trivial) (fun _ _ => trivial)) ((HGW.out.2).kept (Sm.of_below ((Below.refl _ _).alloc (Nat.le_refl _) _))) rfl (Held.made rfl) (fun j hj => (HGW.out.1.2 j hj).2) HTL.out (by have := HB.out.size; have := HB2.out.size; simp; omega) ?_; intro v4 w4 hr4 hg4 ho4; have HR4 := Lib.hid (GrowJ.app (b := 0) HGW.out.1 ((Below.refl _ _).alloc (Nat.le_refl _) _) hr4 hg4 ho4 rfl); have HB4 := Lib.hid (((HB.out.trans (HB2.out.mono HB.out.size)).alloc (by have := HB.out.size; have := HB2.out.size; omega) _).grown hg4 (by have := HB.out.size; have := HB2.out.size; simp; omega) (fun j hj => (HG.out.1.own j hj).1)); clear hr4 hg4 ho4))
        go_roundw
        case rel => exact ⟨k + 1, _, hlt, by go_num, by rw [HT.out]; exact HR4.out, HB4.out⟩
        case measure => simp [intOf]; omega
      · have h6i : ¬ (k : Int) < 6 := by omega
        have HT := Lib.hid (take6_no L k h6)
        clear HU
        go_wp2_with fail
        go_roundw
        case rel => exact ⟨k + 1, _, hlt, by go_num, by rw [HT.out]; exact HG.out, HB.out⟩
        case measure => simp [intOf]; omega
    · obtain rfl : k = L.length := by omega
      have hki : ¬ (L.length : Int) < (L.length : Int) := by omega
      go_wp2_with fail
      go_ret
      exact ⟨_, rfl, ⟨_, by have := HG.out; rw [List.take_length] at this; exact this⟩, HB.out⟩
end Go.Proofs.Ytdackakjcnnofaa

/- Drawn regions whose calls make memory, by one walk (wp_region_bel). -/
namespace Go.Proofs.Ytdackakjcnnofaa
open Go.RowKit
attribute [local go_sem] Oper.semAt_some

/-- A world in which all that lay in w lies. -/
structure BelW (w : World) where
  v : World
  h : Below w.heap.size w v
instance belWInh (w : World) : Inhabited (BelW w) := ⟨⟨w, Below.refl _ _⟩⟩
theorem wp_region_bel {P : Program} {id : Nat} {Q : Exit → Act → World → Prop} {a : Act} {w : World} {l : List Oper} (hm : P.follows .mixedOrders = true) (hB : Region.lexB .any l.toArray = true)
    (h : wpQuiet P l.toArray (fun w' => ∃ p : BelW w, w' = p.v) (fun a' => ∀ w', (∃ p : BelW w, w' = p.v) → Q .normal a' w') l a) : (Code.region id l.toArray true).wp P Q a w :=
  wp_region_quiet (C := fun w' => ∃ p : BelW w, w' = p.v) hm hB ⟨⟨w.drew, (Below.refl _ _).drew⟩, rfl⟩ (by simpa using h)
theorem BelW.of {w w' : World} (h : ∃ p : BelW w, w' = p.v) : Below w.heap.size w w' := by
  obtain ⟨p, rfl⟩ := h
  exact p.h
theorem BelW.cell {w : World} {a : Addr} {u : Value} (hb : a.block < w.heap.size) (h : w.cell? a = some u) (p : BelW w) : p.v.cell? a = some u := (p.h.cell hb).trans h
theorem Calls.bel_of {P : Program} {f : FuncId} {args : Array Value} {w : World} {p : BelW w} {v : Value}
    (h : Calls P f args p.v fun e w' => e = .returned v ∧ Below p.v.heap.size p.v w') : Calls P f args p.v fun e w'' => e = .returned v ∧ ∃ p' : BelW w, w'' = p'.v :=
  h.mono fun _ w' ⟨he, hb⟩ => ⟨he, ⟨w', p.h.trans (hb.mono p.h.size)⟩, rfl⟩
theorem Calls.bel_of_same {P : Program} {f : FuncId} {args : Array Value} {w : World} {p : BelW w} {v : Value}
    (h : Calls P f args p.v fun e w' => e = .returned v ∧ p.v = w') : Calls P f args p.v fun e w'' => e = .returned v ∧ ∃ p' : BelW w, w'' = p'.v :=
  h.mono fun _ _ ⟨he, hb⟩ => ⟨he, p, hb.symm⟩
theorem step_app1_at {ops : Array Oper} {o : Oper} {a : Act} {w : World} {Q : Exit → Act → World → Prop} {K : Act → World → Prop} {E : Prop} (hg : o.guard = none) (s x : Operand)
    (hop : o.op = Op.call { callee := Callee.builtin Builtin.append, args := #[s, x], argTypes := #[28, 28] }) (B : Nat) (v : Value) (xs : List Int) (y : Int) (hs : a.eval s = v) (hown : OwnI 3 B w v xs)
    (ad : Addr) (c : Nat) (hx : a.eval x = .slice (some ad) 1 c) (hc : w.cell? ad = some (.int .i64 y)) (hlen : xs.length < 1000000) (hB : B ≤ w.heap.size)
    (hK : ∀ v' w', OwnI 3 B w' v' (xs ++ [y]) → w.grownBy w' v.ownBlock → (v'.ownBlock = v.ownBlock ∨ v'.ownBlock = some w.heap.size) → K (a.put o.dst v') w') : if Region.wanted o (yielded ops a.tmps) = true then Oper.wp Try.prog o a w K Q else E := by
  have hw : Region.wanted o (yielded ops a.tmps) = true := by simp [Region.wanted, hg]
  rw [if_pos hw]
  obtain ⟨v', w', hrun, r1, r2, r3⟩ := run_app1_at (ty := o.type) hown hc hlen hB
  unfold Oper.wp
  have hx' := hK v' w' r1 r2 r3
  simp [execOp, hop, resolve, invoke, builtin, hs, hx, Result.andThen]
  rw [hrun]
  exact hx'
theorem mixed : Try.prog.follows .mixedOrders = true := by kernel_rfl
end Go.Proofs.Ytdackakjcnnofaa

/- cmp.Compare, slices.Compare, cmp.Or: the walks. -/
namespace Go.Proofs.Ytdackakjcnnofaa
open Go.RowKit
attribute [local go_sem] Oper.semAt_some

/-- What slices.Compare gives. -/
def cmpL : List Int → List Int → Int
  | [], [] => 0
  | [], _ :: _ => -1
  | _ :: _, [] => 1
  | x :: xs, y :: ys => if x < y then -1 else if y < x then 1 else cmpL xs ys
theorem cmpL_self : ∀ xs : List Int, cmpL xs xs = 0
  | [] => rfl
  | x :: xs => by simp [cmpL, cmpL_self xs]
theorem isNaN_any (x : Int) (w : World) : Calls Try.prog 47 #[.int .i64 x] w fun e w' => e = .returned (.bool false) ∧ w = w' := by
  have h : (x != x) = false := by simp
  go_enter Try.func47, Try.ntmps47
  go_wp2
  go_ret
  exact ⟨rfl, rfl⟩

def cmp3 (x y : Int) : Int := if x < y then -1 else if y < x then 1 else 0
set_option maxHeartbeats 400000 in
theorem cmpC_any (x y : Int) (w : World) : Calls Try.prog 25 #[.int .i64 x, .int .i64 y] w fun e w' => e = .returned (.int .i64 (cmp3 x y)) ∧ w = w' := by
  have C := Lib.hid (fun x w' => isNaN_any x w')
  by_cases h1 : x < y
  · have HE := Lib.hid (show cmp3 x y = -1 by unfold cmp3; rw [if_pos h1])
    go_enter Try.func25, Try.ntmps25
    go_wp2_with (go_at_call 47; refine (C.out _ _).mono ?_; rintro e w1 ⟨rfl, rfl⟩)
    go_ret
    exact ⟨ret_int HE.out.symm, rfl⟩
  · by_cases h2 : y < x
    · have HE := Lib.hid (show cmp3 x y = 1 by unfold cmp3; rw [if_neg h1, if_pos h2])
      go_enter Try.func25, Try.ntmps25
      go_wp2_with (go_at_call 47; refine (C.out _ _).mono ?_; rintro e w1 ⟨rfl, rfl⟩)
      go_ret
      exact ⟨ret_int HE.out.symm, rfl⟩
    · have HE := Lib.hid (show cmp3 x y = 0 by unfold cmp3; rw [if_neg h1, if_neg h2])
      go_enter Try.func25, Try.ntmps25
      go_wp2_with (go_at_call 47; refine (C.out _ _).mono ?_; rintro e w1 ⟨rfl, rfl⟩)
      go_ret
      exact ⟨ret_int HE.out.symm, rfl⟩

theorem cmpL_drop {xs ys : List Int} {k : Nat} (h1 : k < xs.length) (h2 : k < ys.length) :
    cmpL (xs.drop k) (ys.drop k) = if xs[k] < ys[k] then -1 else if ys[k] < xs[k] then 1 else cmpL (xs.drop (k + 1)) (ys.drop (k + 1)) := by
  rw [List.drop_eq_getElem_cons h1, List.drop_eq_getElem_cons h2]; rfl
theorem cmpL_over {xs ys : List Int} {k : Nat} (h1 : k < xs.length) (h2 : ¬ k < ys.length) : cmpL (xs.drop k) (ys.drop k) = 1 := by
  rw [List.drop_eq_getElem_cons h1, List.drop_of_length_le (show ys.length ≤ k by omega)]; rfl
theorem cmpL_under {xs ys : List Int} {k : Nat} (h1 : ¬ k < xs.length) (h2 : k < ys.length) : cmpL (xs.drop k) (ys.drop k) = -1 := by
  rw [List.drop_of_length_le (show xs.length ≤ k by omega), List.drop_eq_getElem_cons h2]; rfl
theorem cmpL_end {xs ys : List Int} {k : Nat} (h1 : ¬ k < xs.length) (h2 : ¬ k < ys.length) : cmpL (xs.drop k) (ys.drop k) = 0 := by
  rw [List.drop_of_length_le (show xs.length ≤ k by omega), List.drop_of_length_le (show ys.length ≤ k by omega)]; rfl

set_option maxHeartbeats 1000000 in
theorem Compare_any (v1 v2 : Value) (xs ys : List Int) (w : World) (h1 : Ints w v1 xs) (h2 : Ints w v2 ys) :
    Calls Try.prog 11 #[v1, v2] w fun e w' => e = .returned (.int .i64 (cmpL xs ys)) ∧ w = w' := by
  obtain ⟨a, c, rfl, hl1, _, hc1⟩ := h1
  obtain ⟨a', c', rfl, hl2, _, hc2⟩ := h2
  have H1 := Lib.hid hc1
  have H2 := Lib.hid hc2
  have C := Lib.hid (fun x y w' => cmpC_any x y w')
  clear hc1 hc2
  go_enter Try.func11, Try.ntmps11
  go_wp2
  go_loop [11] (fun i => ∃ k : Nat, k ≤ xs.length ∧ k ≤ ys.length ∧ i = .int .i64 k ∧ Hid (cmpL xs ys = cmpL (xs.drop k) (ys.drop k))) (fun i => xs.length - (intOf i).toNat)
  case atStart => exact ⟨0, Nat.zero_le _, Nat.zero_le _, rfl, Lib.hid rfl⟩
  case round =>
    obtain ⟨k, hk1, hk2, rfl, HT⟩ := hrel
    by_cases hlt : k < xs.length
    · obtain ⟨b, off, rfl, hbl, hcell⟩ := H1.out (by intro e; rw [e] at hlt; simp at hlt)
      have hcx := hcell k hlt
      have hki : (k : Int) < (xs.length : Int) := by omega
      clear hcell
      by_cases hlt2 : k < ys.length
      · obtain ⟨b2, off2, rfl, hbl2, hcell2⟩ := H2.out (by intro e; rw [e] at hlt2; simp at hlt2)
        have hcy := hcell2 k hlt2
        have hki2 : (k : Int) < (ys.length : Int) := by omega
        have HD := Lib.hid (cmpL_drop hlt hlt2)
        clear hcell2
        obtain ⟨x, hx⟩ : ∃ x, xs[k] = x := ⟨_, rfl⟩
        obtain ⟨y, hy⟩ : ∃ y, ys[k] = y := ⟨_, rfl⟩
        rw [hx] at hcx HD
        rw [hy] at hcy HD
        clear hx hy
        by_cases h1 : x < y
        · have HC := Lib.hid (show cmp3 x y = -1 by unfold cmp3; rw [if_pos h1])
          have HE := Lib.hid (show cmpL xs ys = -1 by rw [HT.out, HD.out, if_pos h1])
          clear h1
          go_wp2_with (go_at_call 25; refine (C.out _ _ _).mono ?_; rintro e w1 ⟨rfl, rfl⟩; rw [HC.out])
          go_ret
          exact ⟨ret_int HE.out.symm, rfl⟩
        · by_cases h2 : y < x
          · have HC := Lib.hid (show cmp3 x y = 1 by unfold cmp3; rw [if_neg h1, if_pos h2])
            have HE := Lib.hid (show cmpL xs ys = 1 by rw [HT.out, HD.out, if_neg h1, if_pos h2])
            clear h1 h2
            go_wp2_with (go_at_call 25; refine (C.out _ _ _).mono ?_; rintro e w1 ⟨rfl, rfl⟩; rw [HC.out])
            go_ret
            exact ⟨ret_int HE.out.symm, rfl⟩
          · have HC := Lib.hid (show cmp3 x y = 0 by unfold cmp3; rw [if_neg h1, if_neg h2])
            have HE := Lib.hid (show cmpL xs ys = cmpL (xs.drop (k + 1)) (ys.drop (k + 1)) by rw [HT.out, HD.out, if_neg h1, if_neg h2])
            clear h1 h2
            go_wp2_with (go_at_call 25; refine (C.out _ _ _).mono ?_; rintro e w1 ⟨rfl, rfl⟩; rw [HC.out])
            go_round
            case rel => exact ⟨k + 1, by omega, by omega, by go_num, HE⟩
            case measure => simp [intOf]; omega
      · have hki2 : ¬ (k : Int) < (ys.length : Int) := by omega
        have hki3 : (ys.length : Int) ≤ (k : Int) := by omega
        have HE := Lib.hid (show cmpL xs ys = 1 by rw [HT.out, cmpL_over hlt hlt2])
        go_wp2
        go_ret
        exact ⟨ret_int HE.out.symm, rfl⟩
    · have hki : ¬ (k : Int) < (xs.length : Int) := by omega
      by_cases hlt2 : k < ys.length
      · have HE := Lib.hid (show cmpL xs ys = -1 by rw [HT.out, cmpL_under hlt hlt2])
        have hll : xs.length < ys.length := by omega
        have hli : (xs.length : Int) < (ys.length : Int) := by omega
        go_wp2
        go_ret
        exact ⟨ret_int HE.out.symm, rfl⟩
      · have HE := Lib.hid (show cmpL xs ys = 0 by rw [HT.out, cmpL_end hlt hlt2])
        have hll : ¬ xs.length < ys.length := by omega
        have hli : ¬ (xs.length : Int) < (ys.length : Int) := by omega
        go_wp2
        go_ret
        exact ⟨ret_int HE.out.symm, rfl⟩

/-- The first that is not 0. -/
def orL : List Int → Int
  | [] => 0
  | x :: xs => if x = 0 then orL xs else x
theorem orL_drop {xs : List Int} {k : Nat} (h : k < xs.length) : orL (xs.drop k) = if xs[k] = 0 then orL (xs.drop (k + 1)) else xs[k] := by
  rw [List.drop_eq_getElem_cons h]; rfl
set_option maxHeartbeats 400000 in
theorem cmpOr_any (v : Value) (xs : List Int) (w : World) (h : Ints w v xs) :
    Calls Try.prog 44 #[v] w fun e w' => e = .returned (.int .i64 (orL xs)) ∧ w = w' := by
  obtain ⟨a, c, rfl, hl1, _, hc1⟩ := h
  have H1 := Lib.hid hc1
  clear hc1
  go_enter Try.func44, Try.ntmps44
  go_wp2
  go_loop [8] (fun i => ∃ k : Nat, k ≤ xs.length ∧ i = .int .i64 k ∧ Hid (orL xs = orL (xs.drop k))) (fun i => xs.length - (intOf i).toNat)
  case atStart => exact ⟨0, Nat.zero_le _, rfl, Lib.hid rfl⟩
  case round =>
    obtain ⟨k, hk1, rfl, HT⟩ := hrel
    by_cases hlt : k < xs.length
    · obtain ⟨b, off, rfl, hbl, hcell⟩ := H1.out (by intro e; rw [e] at hlt; simp at hlt)
      have hcx := hcell k hlt
      have hki : (k : Int) < (xs.length : Int) := by omega
      have HD := Lib.hid (orL_drop hlt)
      clear hcell
      obtain ⟨x, hx⟩ : ∃ x, xs[k] = x := ⟨_, rfl⟩
      rw [hx] at hcx HD
      clear hx
      by_cases h0 : x = 0
      · have HE := Lib.hid (show orL xs = orL (xs.drop (k + 1)) by rw [HT.out, HD.out, if_pos h0])
        subst h0
        go_wp2
        go_round
        case rel => exact ⟨k + 1, by omega, by go_num, HE⟩
        case measure => simp [intOf]; omega
      · have HE := Lib.hid (show orL xs = x by rw [HT.out, HD.out, if_neg h0])
        have hb : (x != 0) = true := by simpa using h0
        go_wp2
        go_ret
        exact ⟨ret_int HE.out.symm, rfl⟩
    · have hki : ¬ (k : Int) < (xs.length : Int) := by omega
      have HE := Lib.hid (show orL xs = 0 by rw [HT.out, List.drop_of_length_le (by omega)]; rfl)
      go_wp2
      go_ret
      exact ⟨ret_int HE.out.symm, rfl⟩
end Go.Proofs.Ytdackakjcnnofaa

/- The program's group in memory: elements and their numbers. -/
namespace Go.Proofs.Ytdackakjcnnofaa
open Go.RowKit
attribute [local go_sem] Oper.semAt_some

/-- An element as the program holds it. -/
def elI (d : Nat) (x : List Nat) : List Int := toI (padP d x)
def elsI (d : Nat) (E : List (List Nat)) : List (List Int) := E.map (elI d)
theorem elsI_length (d : Nat) (E : List (List Nat)) : (elsI d E).length = E.length := by simp [elsI]
theorem elI_len {d : Nat} {x : List Nat} (hd : d ≤ 5) (hx : Perm1 d x) : (elI d x).length = 5 := by rw [elI, toI_length, padP_length hd hx]
theorem elI_elt {d : Nat} {x : List Nat} (hd : d ≤ 5) (hx : Perm1 d x) : Elt (elI d x) := by
  refine ⟨elI_len hd hx, fun y hy => ?_, fun y hy => ?_⟩
  · obtain ⟨z, _, rfl⟩ := List.mem_map.1 hy; omega
  · obtain ⟨z, hz, rfl⟩ := List.mem_map.1 hy
    rcases List.mem_append.1 hz with hz | hz
    · have := hx.lt z hz; omega
    · have := (List.mem_range'_1.1 hz); omega
theorem elI_inj {d : Nat} {x y : List Nat} (hx : Perm1 d x) (hy : Perm1 d y) (h : elI d x = elI d y) : x = y := padP_inj hx hy (toI_inj h)
/-- The product of two elements. -/
theorem afterE_mul {d : Nat} {x y : List Nat} (hd : d ≤ 5) (hx : Perm1 d x) (hy : Perm1 d y) : afterE (elI d x) (elI d y) = elI d (mulP x y) := by
  unfold elI
  rw [← padP_mul hd hx hy]
  unfold afterE mulP toI
  rw [List.map_map, List.map_map]
  refine List.map_congr_left fun z hz => ?_
  have hz5 : z < 5 := by
    rcases List.mem_append.1 hz with hz | hz
    · have := hy.lt z hz; omega
    · have := (List.mem_range'_1.1 hz); omega
  have hl := padP_length hd hx
  simp [List.getD_eq_getElem?_getD, List.getElem?_eq_getElem (show z < (padP d x).length by omega)]
theorem elsI_elt {d : Nat} {E : List (List Nat)} (h : Grp d E) (hd : d ≤ 5) : ∀ l ∈ elsI d E, Elt l := fun l hl => by
  obtain ⟨x, hx, rfl⟩ := List.mem_map.1 hl
  exact elI_elt hd (h.perm x hx)
theorem nodup_map_on {α β : Type} {f : α → β} : ∀ {l : List α}, l.Nodup → (∀ a ∈ l, ∀ b ∈ l, f a = f b → a = b) → (l.map f).Nodup
  | l, h, hf => by
    rw [List.Nodup, List.pairwise_map]
    exact h.imp_of_mem fun {a b} ha hb hne e => hne (hf a ha b hb e)
theorem elsI_nodup {d : Nat} {E : List (List Nat)} (h : Grp d E) : (elsI d E).Nodup :=
  nodup_map_on h.nodup fun a ha b hb e => elI_inj (h.perm a ha) (h.perm b hb) e
theorem idxOf_map {d : Nat} {E : List (List Nat)} (hp : ∀ x ∈ E, Perm1 d x) {y : List Nat} (hy : Perm1 d y) : (elsI d E).idxOf (elI d y) = E.idxOf y := by
  unfold elsI
  induction E with
  | nil => rfl
  | cons a E ih =>
    rw [List.map_cons, List.idxOf_cons, List.idxOf_cons, ih fun x hx => hp x (List.mem_cons_of_mem _ hx)]
    have : (elI d a == elI d y) = (a == y) := by
      rw [Bool.eq_iff_iff, beq_iff_eq, beq_iff_eq]
      exact ⟨elI_inj (hp a List.mem_cons_self) hy, fun e => by rw [e]⟩
    rw [this]
theorem mem_elsI {d : Nat} {E : List (List Nat)} (hp : ∀ x ∈ E, Perm1 d x) {y : List Nat} (hy : Perm1 d y) : elI d y ∈ elsI d E ↔ y ∈ E := by
  unfold elsI
  rw [List.mem_map]
  exact ⟨fun ⟨x, hx, e⟩ => by rw [← elI_inj (hp x hx) hy e]; exact hx, fun h => ⟨y, h, rfl⟩⟩

/-- The elements lie in block g, five cells each. -/
def ElsAt (w : World) (v : Value) (L : List (List Int)) : Prop :=
  ∃ g cap, v = .slice (some ⟨g, 0, none⟩) L.length cap ∧ L.length ≤ cap ∧ g < w.heap.size ∧ ∀ i (hi : i < L.length) j, j < 5 → w.cell? ⟨g, i * 5 + j, none⟩ = (cs5 L[i])[j]?
theorem ElsAt.below {w w' : World} {v : Value} {L : List (List Int)} (h : ElsAt w v L) (hb : Below w.heap.size w w') : ElsAt w' v L := by
  obtain ⟨g, cap, e, h0, h1, h2⟩ := h
  exact ⟨g, cap, e, h0, Nat.lt_of_lt_of_le h1 hb.size, fun i hi j hj => (hb.cell (p := ⟨g, i * 5 + j, none⟩) h1).trans (h2 i hi j hj)⟩
theorem OwnE.els {B : Nat} {w : World} {v : Value} {L : List (List Int)} (h : OwnE B w v L) (hL : ∀ l ∈ L, l.length = 5) (hp : 0 < L.length) : ElsAt w v L := by
  rcases h.2 with ⟨rfl, hn⟩ | ⟨g, cap, cur, rfl, hg, hh, hn, hcap, hsz, hx⟩
  · omega
  · refine ⟨g, cap, rfl, hn, (Array.getElem?_eq_some_iff.1 hh).1, fun i hi j hj => ?_⟩
    have h' : w.ownsRow B 54 5 (.slice (some ⟨g, 0, none⟩) L.length cap) L.length (L.flatMap cs5) := h
    rw [World.ownsRow.cellAt h' (i * 5 + j) (by omega), flat_get L i j hi hL hj]
/-- Elements and map of a group. -/
structure GT (d : Nat) (E : List (List Nat)) (w : World) (bg : Nat) (vE : Value) (bM : Nat) : Prop where
  lt : bg < w.heap.size
  e : w.cell? ⟨bg, 1, none⟩ = some vE
  m : w.cell? ⟨bg, 2, none⟩ = some (.map (some bM))
  els : ElsAt w vE (elsI d E)
  map : MapE w bM (elsI d E)
theorem MapE.below {w w' : World} {b : Nat} {L : List (List Int)} (h : MapE w b L) (hb : Below w.heap.size w w') : MapE w' b L := h.sm (S := fun _ => True) (Sm.of_below hb) trivial
theorem GT.below {d : Nat} {E : List (List Nat)} {w w' : World} {bg bM : Nat} {vE : Value} (h : GT d E w bg vE bM) (hb : Below w.heap.size w w') : GT d E w' bg vE bM :=
  ⟨Nat.lt_of_lt_of_le h.lt hb.size, (hb.cell (p := ⟨bg, 1, none⟩) h.lt).trans h.e, (hb.cell (p := ⟨bg, 2, none⟩) h.lt).trans h.m, h.els.below hb, h.map.below hb⟩
theorem MapE.look1 {w : World} {b : Nat} {L : List (List Int)} (h : MapE w b L) (hL : ∀ l ∈ L, Elt l) (hn : L.Nodup) {x : List Int} (hx : Elt x) (hm : x ∈ L) :
    (Instr.lookup 50 (.map (some b)) (.agg (cs5 x).toArray) false).run Try.prog w = .ok (.int .i64 ((L.idxOf x : Nat) : Int)) w := by
  obtain ⟨es, clock, hb, hc, hf, _⟩ := h.find hL hn hx
  have ht : Try.prog.underlying 50 = some (.map 54 3) := Try.underlying50
  rcases hf with ⟨hm', _⟩ | ⟨_, hf⟩
  · exact absurd hm hm'
  · simp [Instr.lookup, run_underlying ht, MapKept.run_getObj_map hb, hc, hf, Result.andThen]
theorem five {l : List Int} (h : l.length = 5) : ∃ a b c d e, l = [a, b, c, d, e] := by
  match l, h with
  | [a, b, c, d, e], _ => exact ⟨a, b, c, d, e, rfl⟩
end Go.Proofs.Ytdackakjcnnofaa
