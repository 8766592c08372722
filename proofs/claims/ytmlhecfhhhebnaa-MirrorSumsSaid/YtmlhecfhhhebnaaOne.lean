/- (Group).one. -/
import Derived.Test.YtmlhecfhhhebnaaProg
import Derived.Test.YtmlhecfhhhebnaaHeld
import Derived.Test.YtmlhecfhhhebnaaSp
import Derived.WalkKit
import Derived.WalkSpells
import Derived.WalkLawsBesides
namespace Go.Proofs.Ytmlhecfhhhebnaa
open Go.RowKit

/-- The cells of an element. -/
def cs8 (l : List Int) : List Value := l.map (Value.int .i8)
theorem cs8_length (l : List Int) : (cs8 l).length = l.length := by simp [cs8]
theorem cs8_get (l : List Int) (i : Nat) (h : i < l.length) : (cs8 l)[i]? = some (.int .i8 l[i]) := by simp [cs8, List.getElem?_eq_getElem h]
theorem cs8_set (l : List Int) (i : Nat) (x : Int) : (cs8 l).set i (.int .i8 x) = cs8 (l.set i x) := by simp [cs8, List.map_set]
theorem cs8_one (l : List Int) : ∀ v ∈ cs8 l, v.oneCell' = true := fun v hv => by obtain ⟨x, _, rfl⟩ := List.mem_map.1 hv; rfl
def grp (K n : Nat) : Value := .agg #[.int .u8 (K : Nat), .int .i64 (n : Nat)]
theorem infoE : (Try.prog.info? 113).map (·.size) = some 24 := by kernel_rfl
def zeroE : List Int := List.replicate 24 0
def oneTo (k : Nat) : List Int := (List.range 24).map fun i => if i < k then ((i + 1 : Nat) : Int) else 0
theorem oneTo_step : ∀ k : Nat, k < 24 → (oneTo k).set k ((k : Int) + 1) = oneTo (k + 1) := by decide +kernel
theorem oneTo_zero : oneTo 0 = zeroE := by decide +kernel
theorem oneTo_all : oneTo 24 = oneE := by decide +kernel
theorem oneTo_length (k : Nat) : (oneTo k).length = 24 := by simp [oneTo]

/-- An element's number at an index. -/
theorem run_index_elem (l : List Int) (k : Nat) (x : Int) (hk : k < 24) (hx : (cs8 l)[k]? = some (.int .i8 x)) (w : World) :
    (Instr.index 113 (.agg (cs8 l).toArray) (.int .i64 (k : Nat))).run Try.prog w = .ok (.int .i8 x) w := by
  have hi : (Try.prog.info? 111).map (fun i => i.size) = some 1 := by kernel_rfl
  cases hq : Try.prog.info? 111 with
  | none => rw [hq] at hi; cases hi
  | some i =>
    have hs : i.size = 1 := by rw [hq] at hi; simpa using hi
    simp [Instr.index, asIntOf, run_underlying Try.underlying113, sizeOf, typeInfo, hq, hs, part, isAgg, hx, hk]

theorem zero_len : (cs8 zeroE).length = 24 := by simp [cs8_length, zeroE]
theorem cs8_size {l : List Int} (hl : l.length = 24) : (cs8 l).toArray.size = 24 := by simp [cs8_length, hl]
theorem infoL {l : List Int} (hl : l.length = 24) : (Try.prog.info? 113).map (·.size) = some (cs8 l).toArray.size := by rw [infoE, cs8_size hl]
theorem infoLl {l : List Int} (hl : l.length = 24) : (Try.prog.info? 113).map (·.size) = some (cs8 l).length := by rw [infoE, cs8_length, hl]
/-- A whole element is stored over a block. -/
theorem wpl_store_elem {ops : Array Oper} {rest : List Oper} {op : Oper} {a : Act} {w : World} {Q : Exit → Act → World → Prop} (hg : op.guard = none) (x y : Operand) (ho : op.op = .store 113 x y)
    (b : Nat) (l l0 : List Int) (hl : l.length = 24) (hl0 : l0.length = 24) (hx : a.eval x = .pointer (some ⟨b, 0, none⟩)) (hy : a.eval y = .agg (cs8 l).toArray) (h0 : Held w b 113 (cs8 l0))
    (hK : ∀ W, Held W b 113 (cs8 l) → Sm (fun k => k ≠ b) w W → W.heap.size = w.heap.size → wpList Try.prog ops Q rest (a.put op.dst undef) W) : wpList Try.prog ops Q (op :: rest) a w := by
  have ht : w.there b 0 (cs8 l).toArray.size := by
    have := h0.there
    rw [cs8_length, hl0] at this
    rw [cs8_size hl]; exact this
  refine wpList_store_mid hg 113 x y ho b 0 (cs8 l).toArray hx hy ht (infoL hl) (all_oneCell_toArray (cs8_one _)) ?_
  exact hK _ (h0.over (cs8 l) (by rw [cs8_length, cs8_length, hl, hl0])) (Sm.setCells _ _ _ _) (setCells_size _ _ _ _)
/-- A whole element is loaded. -/
theorem wpl_load_elem {ops : Array Oper} {rest : List Oper} {op : Oper} {a : Act} {w : World} {Q : Exit → Act → World → Prop} (hg : op.guard = none) (x : Operand) (ho : op.op = .load 113 x)
    (b : Nat) (l : List Int) (hl : l.length = 24) (hx : a.eval x = .pointer (some ⟨b, 0, none⟩)) (h0 : Held w b 113 (cs8 l))
    (hK : wpList Try.prog ops Q rest (a.put op.dst (.agg (cs8 l).toArray)) w) : wpList Try.prog ops Q (op :: rest) a w :=
  wpList_load_mid hg 113 x ho b 0 hx (cs8 l) _ h0.range Try.underlying113 rfl (infoLl hl) hK

/-- A function's one result that lies in memory: an element. -/
theorem results_elem {fn : Func} {tmps : Array Value} {w : World} {g : Nat} {l : List Int} (s : Nat) (hfn : fn.results = #[.cell s 113]) (hs : tmps.getD s undef = .pointer (some ⟨g, 0, none⟩)) (h : Held w g 113 (cs8 l)) (hl : l.length = 24) :
    (results fn tmps).run Try.prog w = .ok (.agg (cs8 l).toArray) w := by
  have hr := run_loadVar_mid (P := Try.prog) w g 0 113 (cs8 l) _ h.range Try.underlying113 rfl (by rw [infoE, cs8_length, hl])
  unfold results
  rw [hfn]
  have hs' : tmps[s]?.getD undef = .pointer (some ⟨g, 0, none⟩) := by simpa using hs
  simp [hs', hr, asAddr]

set_option maxRecDepth 100000 in
set_option maxHeartbeats 1000000 in
theorem one_any (K n : Nat) (w : World) :
    Calls Try.prog 99 #[grp K n] w fun e w' => e = .returned (.agg (cs8 oneE).toArray) ∧ Below w.heap.size w w' := by
  unfold grp
  go_enter Try.func99, Try.ntmps99
  go_wp2
  go_loopw [5] (fun ix wr => ∃ k : Nat, k ≤ 24 ∧ ix = .int .i64 k ∧ Held wr (w.heap.size + 1) 113 (cs8 zeroE) ∧ Held wr (w.heap.size + 1 + 1) 113 (cs8 (oneTo k)) ∧ Below w.heap.size w wr) (fun ix _ => 24 - (intOf ix).toNat)
  case atStart =>
    refine ⟨0, by omega, rfl, ?_, ?_, ?_⟩
    · exact Held.alloc (Held.made (l := cs8 zeroE) (by simp)) _
    · rw [oneTo_zero]; exact Held.made (l := cs8 zeroE) (by simp)
    · exact (((Below.refl _ _).alloc (Nat.le_refl _) _).alloc (by simp) _).alloc (by simp; omega) _
  case round =>
    obtain ⟨k, hk, rfl, h1, h2, hb⟩ := hrel
    by_cases hlt : k < 24
    · have hki : (k : Int) < 24 := by omega
      have hw : IntKind.i8.wrap ((k : Int) + 1) = (k : Int) + 1 := by simp [IntKind.wrap, IntKind.bits, IntKind.signed]; omega
      have hc := h2.at (cs8_get (oneTo k) k (by rw [oneTo_length]; exact hlt))
      have hf := h2.free k
      have H1 := Lib.hid h1
      have H2 := Lib.hid h2
      have HB := Lib.hid hb
      clear h1 h2 hb
      go_wp2
      go_roundw
      case rel =>
        refine ⟨k + 1, by omega, by go_num, H1.out.far (by omega) _ _, ?_, HB.out.setCell (by simp; omega) _⟩
        rw [← oneTo_step k hlt, ← cs8_set]
        exact H2.out.put k _
      case measure => simp [intOf]; omega
    · obtain rfl : k = 24 := by omega
      rw [oneTo_all] at h2
      have H1 := Lib.hid h1
      have H2 := Lib.hid h2
      have HB := Lib.hid hb
      clear h1 h2 hb
      go_wp2_with (first
        | (refine wpList_load_mid (by rfl) 113 _ (by rfl) (w.heap.size + 1 + 1) 0 (by rfl) (cs8 oneE) _ H2.out.range Try.underlying113 (by rfl) infoE ?_)
        | (refine wpList_store_mid (by rfl) 113 _ _ (by rfl) (w.heap.size + 1) 0 (cs8 oneE).toArray (by rfl) (by rfl) H1.out.there infoE (all_oneCell_toArray (cs8_one _)) ?_))
      exact bodyPost_ret (results_elem 2 Try.results99 (by rfl) (H1.out.over (cs8 oneE) (by rw [cs8_length, cs8_length]; rfl)) (by rfl)) rfl ⟨rfl, below_setCells _ (by omega) _ _ _ HB.out⟩
end Go.Proofs.Ytmlhecfhhhebnaa
