/- TracesAbelian's closure; ContainsFunc with it. -/
import Derived.Test.YtdackakjcnnofaaA13
namespace Go.Proofs.Ytdackakjcnnofaa
open Go.RowKit
attribute [local go_sem] Oper.semAt_some

/-- The closure's variable. -/
structure CapX (w : World) (p : Nat) (u : Value) (xs : List Int) : Prop where
  cell : w.cell? ⟨p, 0, none⟩ = some u
  lt : p < w.heap.size
  ints : Ints w u xs
theorem CapX.below {w w' : World} {p : Nat} {u : Value} {xs : List Int} (h : CapX w p u xs) (hb : Below w.heap.size w w') : CapX w' p u xs :=
  ⟨(hb.cell (p := ⟨p, 0, none⟩) h.lt).trans h.cell, Nat.lt_of_lt_of_le h.lt hb.size, h.ints.below hb⟩
theorem closX_any {p : Nat} (u v : Value) (xs ys : List Int) (w : World) (h : CapX w p u xs) (hv : Ints w v ys) :
    Calls Try.prog 14 #[v, .pointer (some ⟨p, 0, none⟩)] w fun e w' => e = .returned (.bool (decide (ys = xs))) ∧ Below w.heap.size w w' := by
  have EQ := Lib.hid (Equal_any v u ys xs w hv h.ints)
  have hc := h.cell
  obtain ⟨a, c, rfl, -, -, -⟩ := h.ints
  clear h hv
  go_enter Try.func14, Try.ntmps14
  go_wp2_with (go_at_call 12; refine EQ.out.mono ?_; rintro e w2 ⟨rfl, hb⟩; have HB := Lib.hid hb; clear hb)
  go_ret
  exact ⟨rfl, HB.out⟩
set_option maxRecDepth 20000 in
theorem IndexX_any {S : Nat → Prop} {B p : Nat} (v u : Value) (E : List (List Nat)) (x : List Nat) (w : World) (h1 : RowsF S B w v E) (hp : CapX w p u (toI x)) (hx : x ∈ E) (hl : E.length ≤ 1000000) :
    Calls Try.prog 26 #[v, .func (.func 14) #[] #[.pointer (some ⟨p, 0, none⟩)]] w fun e w' => (∃ k : Nat, e = .returned (.int .i64 k)) ∧ Below w.heap.size w w' := by
  have H1 := Lib.hid (fun (w' : World) (hb : Below w.heap.size w w') => h1.kept (S' := fun _ => True) (Sm.of_below hb) (fun _ _ => trivial) (fun _ _ => trivial))
  have HP := Lib.hid (fun (w' : World) (hb : Below w.heap.size w w') => hp.below hb)
  obtain ⟨i, hi, hix⟩ := List.getElem_of_mem hx
  obtain ⟨a, c, rfl⟩ := h1.form
  have HIX := Lib.hid hix
  clear h1 hp hx hix
  go_enter Try.func26, Try.ntmps26
  go_wp2
  go_loopw [8] (fun ix wr => ∃ k : Nat, k ≤ i ∧ ix = .int .i64 k ∧ Below w.heap.size w wr) (fun ix _ => i - (intOf ix).toNat)
  case atStart => exact ⟨0, Nat.zero_le _, rfl, Below.refl _ _⟩
  case round =>
    obtain ⟨k, hk, rfl, hb⟩ := hrel
    have hlt : k < E.length := by omega
    have hki : (k : Int) < (E.length : Int) := by omega
    obtain ⟨g, cap, r, e1, _, _, hc1, hf1⟩ := (H1.out wr hb).at k hlt
    obtain ⟨rfl, _, rfl⟩ := Value.slice.inj e1
    have C := Lib.hid (by have := closX_any u r (toI x) (toI E[k]) wr (HP.out wr hb) hf1.ints; rw [dec_toI] at this; exact this)
    have HB := Lib.hid hb
    obtain ⟨ua, uc, uf, _⟩ := hf1.slice
    subst uf
    clear hf1 hb e1
    by_cases hxy : E[k] = x
    · have HD := Lib.hid (show decide (E[k] = x) = true by simpa using hxy)
      clear hxy
      go_wp2_with (go_at_call 14; refine C.out.mono ?_; rintro e w2 ⟨rfl, hb2⟩; rw [HD.out])
      go_ret
      exact ⟨⟨k, rfl⟩, HB.out.trans (hb2.mono HB.out.size)⟩
    · have HD := Lib.hid (show decide (E[k] = x) = false by simpa using hxy)
      have hki2 : k < i := by
        rcases Nat.lt_or_ge k i with h | h
        · exact h
        · obtain rfl : k = i := by omega
          exact absurd HIX.out hxy
      have HKI := Lib.hid hki2
      clear hxy
      go_wp2_with (go_at_call 14; refine C.out.mono ?_; rintro e w2 ⟨rfl, hb2⟩; rw [HD.out])
      go_roundw
      case rel => exact ⟨k + 1, HKI.out, by go_num, HB.out.trans (hb2.mono HB.out.size)⟩
      case measure => have := HKI.out; simp [intOf]; omega
theorem ContainsX_any {S : Nat → Prop} {B p : Nat} (v u : Value) (E : List (List Nat)) (x : List Nat) (w : World) (h1 : RowsF S B w v E) (hp : CapX w p u (toI x)) (hx : x ∈ E) (hl : E.length ≤ 1000000) :
    Calls Try.prog 13 #[v, .func (.func 14) #[] #[.pointer (some ⟨p, 0, none⟩)]] w fun e w' => e = .returned (.bool true) ∧ Below w.heap.size w w' := by
  have C := Lib.hid (IndexX_any v u E x w h1 hp hx hl)
  obtain ⟨a, c, rfl⟩ := h1.form
  clear h1 hp hx
  go_enter Try.func13, Try.ntmps13
  go_wp2_with (go_at_call 26; refine C.out.mono ?_; rintro e w2 ⟨⟨k, rfl⟩, hb2⟩; have HB := Lib.hid hb2; clear hb2)
  go_ret
  exact ⟨ret_bool (by simp), HB.out⟩
end Go.Proofs.Ytdackakjcnnofaa
