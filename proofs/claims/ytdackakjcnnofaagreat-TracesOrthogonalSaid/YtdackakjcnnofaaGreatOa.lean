/- slices.Index and Contains; IndexFunc over rows with the law's closures; class. -/
import Derived.Test.YtdackakjcnnofaaGreatA8
namespace Go.Proofs.YtdackakjcnnofaaGreat
open Go.RowKit
attribute [local go_sem] Oper.semAt_some

/-- The first place that passes, or -1. -/
def fiI {α : Type} (p : α → Bool) (L : List α) : Int := if L.findIdx p < L.length then (L.findIdx p : Int) else -1
theorem fiI_found {α : Type} {p : α → Bool} {L : List α} {k : Nat} (hk : k < L.length) (h : ∀ i (hi : i < L.length), i < k → p L[i] = false) (hn : p L[k] = true) : fiI p L = k := by
  have e : L.findIdx p = k := by
    rw [List.findIdx_eq hk]
    exact ⟨hn, fun j hj => h j (by omega) hj⟩
  unfold fiI
  rw [e, if_pos hk]
theorem fiI_none {α : Type} {p : α → Bool} {L : List α} {k : Nat} (hk : L.length ≤ k) (h : ∀ i (hi : i < L.length), i < k → p L[i] = false) : fiI p L = -1 := by
  have e : L.findIdx p = L.length := by
    rw [List.findIdx_eq_length]
    intro x hx
    obtain ⟨i, hi, rfl⟩ := List.getElem_of_mem hx
    exact h i hi (by omega)
  unfold fiI
  rw [e, if_neg (Nat.lt_irrefl _)]
theorem fiI_nonneg {α : Type} (p : α → Bool) (L : List α) : decide (0 ≤ fiI p L) = L.any p := by
  unfold fiI
  by_cases h : L.findIdx p < L.length
  · rw [if_pos h]
    have := List.findIdx_lt_length.1 h
    obtain ⟨x, hx, hp⟩ := this
    have e : L.any p = true := List.any_eq_true.2 ⟨x, hx, hp⟩
    rw [e]; simp
  · rw [if_neg h]
    have e : L.any p = false := by
      rw [← Bool.not_eq_true, List.any_eq_true]
      rintro ⟨x, hx, hp⟩
      exact h (List.findIdx_lt_length.2 ⟨x, hx, hp⟩)
    rw [e]; simp
set_option maxHeartbeats 400000 in
theorem Index_any (v : Value) (xs : List Int) (m : Int) (w : World) (hv : Ints w v xs) :
    Calls Tryz.prog 68 #[v, .int .i64 m] w fun e w' => e = .returned (.int .i64 (fiI (fun x => m == x) xs)) ∧ w = w' := by
  obtain ⟨a, c, rfl, hlen, hcl, hcs⟩ := hv
  have HF := Lib.hid (fun k (hk : k < xs.length) h hn => fiI_found (p := fun x => m == x) (k := k) (L := xs) hk h hn)
  have HE := Lib.hid (fun k (hk : xs.length ≤ k) h => fiI_none (p := fun x => m == x) (k := k) (L := xs) hk h)
  obtain ⟨R, hR⟩ : ∃ R, fiI (fun x => m == x) xs = R := ⟨_, rfl⟩
  have HR := Lib.hid hR
  rw [hR]
  clear hR
  go_enter Tryz.func68, Tryz.ntmps68
  go_wp2
  go_loop [8] (fun i => ∃ k : Nat, k ≤ xs.length ∧ i = .int .i64 k ∧ ∀ i (hi : i < xs.length), i < k → (m == xs[i]) = false) (fun i => xs.length - (intOf i).toNat)
  case atStart => exact ⟨0, Nat.zero_le _, rfl, fun _ _ h => absurd h (Nat.not_lt_zero _)⟩
  case round =>
    obtain ⟨k, hk, rfl, hno⟩ := hrel
    have HNO := Lib.hid hno
    clear hno
    by_cases hlt : k < xs.length
    · obtain ⟨b, off, rfl, hb, hcell⟩ := hcs (by intro h; simp [h] at hlt)
      have hcx := hcell k hlt
      clear hcell hcs
      have HFK := Lib.hid (HF.out k hlt HNO.out)
      cases hz : (m == xs[k]) with
      | false =>
        have HNX := Lib.hid (show ∀ i (hi : i < xs.length), i < k + 1 → (m == xs[i]) = false from fun i hi h => by
          by_cases e : i = k
          · subst e; exact hz
          · exact HNO.out i hi (by omega))
        go_wp2
        go_round
        case rel => exact ⟨k + 1, by omega, by go_num, HNX.out⟩
        case measure => simp [intOf]; omega
      | true =>
        have HP := Lib.hid (HFK.out hz)
        go_wp2
        go_ret
        exact ⟨ret_int (by rw [← HR.out, HP.out]), rfl⟩
    · obtain rfl : k = xs.length := by omega
      have HP := Lib.hid (HE.out xs.length (Nat.le_refl _) HNO.out)
      go_wp2
      go_ret
      exact ⟨ret_int (by rw [← HR.out, HP.out]), rfl⟩
set_option maxHeartbeats 400000 in
theorem Contains_any (v : Value) (xs : List Int) (m : Int) (w : World) (hv : Ints w v xs) :
    Calls Tryz.prog 42 #[v, .int .i64 m] w fun e w' => e = .returned (.bool (xs.any fun x => m == x)) ∧ w = w' := by
  have C := Lib.hid (Index_any v xs m w hv)
  have HP := Lib.hid (fiI_nonneg (fun x => m == x) xs)
  obtain ⟨R, hR⟩ : ∃ R, fiI (fun x => m == x) xs = R := ⟨_, rfl⟩
  rw [hR] at C HP
  clear hv hR
  go_enter Tryz.func42, Tryz.ntmps42
  go_wp2_with (go_at_call 68; refine C.out.mono ?_; rintro e w' ⟨rfl, rfl⟩)
  go_ret
  exact ⟨ret_bool (by rw [← HP.out]), rfl⟩
set_option maxRecDepth 20000 in
set_option maxHeartbeats 1000000 in
theorem IndexS_class (p : List Nat → Bool) {S : Nat → Prop} {B bx : Nat} (u : Value) (C : List (List Nat)) (w : World) (hu : RowsF S B w u C) (hl : C.length ≤ 1000000)
    (hf : ∀ w' x k (hk : k < C.length), Below w.heap.size w w' → Ints w' x (toI C[k]) → Calls Tryz.prog 98 #[x, .pointer (some ⟨bx, 0, none⟩)] w' fun e w2 => e = .returned (.bool (p C[k])) ∧ Below w'.heap.size w' w2) :
    Calls Tryz.prog 59 #[u, .func (.func 98) #[] #[.pointer (some ⟨bx, 0, none⟩)]] w fun e w' => e = .returned (.int .i64 (fiI p C)) ∧ Below w.heap.size w w' := by
  have HU := Lib.hid (fun (w' : World) (hb : Below w.heap.size w w') => hu.kept (S' := fun _ => True) (Sm.of_below hb) (fun _ _ => trivial) (fun _ _ => trivial))
  have HC := Lib.hid hf
  have HF := Lib.hid (fun k (hk : k < C.length) h hn => fiI_found (p := p) (k := k) (L := C) hk h hn)
  have HE := Lib.hid (fun k (hk : C.length ≤ k) h => fiI_none (p := p) (k := k) (L := C) hk h)
  obtain ⟨a, cp, rfl⟩ := hu.form
  obtain ⟨R, hR⟩ : ∃ R, fiI p C = R := ⟨_, rfl⟩
  have HR := Lib.hid hR
  rw [hR]
  clear hu hf hR
  go_enter Tryz.func59, Tryz.ntmps59
  go_wp2
  go_loopw [8] (fun ix wr => ∃ k : Nat, k ≤ C.length ∧ ix = .int .i64 k ∧ (∀ i (hi : i < C.length), i < k → p C[i] = false) ∧ Below w.heap.size w wr) (fun ix _ => C.length - (intOf ix).toNat)
  case atStart => exact ⟨0, Nat.zero_le _, rfl, fun i _ h => absurd h (Nat.not_lt_zero _), Below.refl _ _⟩
  case round =>
    obtain ⟨k, hk, rfl, hno, hbr⟩ := hrel
    have HNO := Lib.hid hno
    have HB := Lib.hid hbr
    have hsz := hbr.size
    clear hno hbr
    by_cases hlt : k < C.length
    · have hki : (k : Int) < (C.length : Int) := by omega
      obtain ⟨g, cap, x, e1, _, _, hc1, hf1⟩ := (HU.out wr HB.out).at k hlt
      obtain ⟨rfl, _, rfl⟩ := Value.slice.inj e1
      have K := Lib.hid (HC.out wr x k hlt HB.out hf1.ints)
      have HFK := Lib.hid (HF.out k hlt HNO.out)
      obtain ⟨ua, uc, uf, _⟩ := hf1.slice
      subst uf
      clear hf1 e1
      cases hz : p C[k] with
      | false =>
        have HNX := Lib.hid (show ∀ i (hi : i < C.length), i < k + 1 → p C[i] = false from fun i hi h => by
          by_cases e : i = k
          · subst e; exact hz
          · exact HNO.out i hi (by omega))
        rw [hz] at K
        clear hz
        go_wp2_with (go_at_call 98; refine K.out.mono ?_; rintro e w2 ⟨rfl, hb2⟩; have HB2 := Lib.hid hb2; clear hb2)
        go_roundw
        case rel => exact ⟨k + 1, hlt, by go_num, HNX.out, HB.out.trans (HB2.out.mono hsz)⟩
        case measure => simp [intOf]; omega
      | true =>
        have HP := Lib.hid (HFK.out hz)
        rw [hz] at K
        clear hz
        go_wp2_with (go_at_call 98; refine K.out.mono ?_; rintro e w2 ⟨rfl, hb2⟩; have HB2 := Lib.hid hb2; clear hb2)
        go_ret
        exact ⟨ret_int (by rw [← HR.out, HP.out]), HB.out.trans (HB2.out.mono hsz)⟩
    · obtain rfl : k = C.length := by omega
      have hki : ¬ (C.length : Int) < (C.length : Int) := by omega
      have HP := Lib.hid (HE.out C.length (Nat.le_refl _) HNO.out)
      go_wp2
      go_ret
      exact ⟨ret_int (by rw [← HR.out, HP.out]), HB.out⟩
set_option maxRecDepth 20000 in
set_option maxHeartbeats 1000000 in
theorem IndexS_inv (p : List Nat → Bool) {S : Nat → Prop} {B bx : Nat} (u : Value) (C : List (List Nat)) (w : World) (hu : RowsF S B w u C) (hl : C.length ≤ 1000000)
    (hf : ∀ w' x k (hk : k < C.length), Below w.heap.size w w' → Ints w' x (toI C[k]) → Calls Tryz.prog 67 #[x, .pointer (some ⟨bx, 0, none⟩)] w' fun e w2 => e = .returned (.bool (p C[k])) ∧ Below w'.heap.size w' w2) :
    Calls Tryz.prog 59 #[u, .func (.func 67) #[] #[.pointer (some ⟨bx, 0, none⟩)]] w fun e w' => e = .returned (.int .i64 (fiI p C)) ∧ Below w.heap.size w w' := by
  have HU := Lib.hid (fun (w' : World) (hb : Below w.heap.size w w') => hu.kept (S' := fun _ => True) (Sm.of_below hb) (fun _ _ => trivial) (fun _ _ => trivial))
  have HC := Lib.hid hf
  have HF := Lib.hid (fun k (hk : k < C.length) h hn => fiI_found (p := p) (k := k) (L := C) hk h hn)
  have HE := Lib.hid (fun k (hk : C.length ≤ k) h => fiI_none (p := p) (k := k) (L := C) hk h)
  obtain ⟨a, cp, rfl⟩ := hu.form
  obtain ⟨R, hR⟩ : ∃ R, fiI p C = R := ⟨_, rfl⟩
  have HR := Lib.hid hR
  rw [hR]
  clear hu hf hR
  go_enter Tryz.func59, Tryz.ntmps59
  go_wp2
  go_loopw [8] (fun ix wr => ∃ k : Nat, k ≤ C.length ∧ ix = .int .i64 k ∧ (∀ i (hi : i < C.length), i < k → p C[i] = false) ∧ Below w.heap.size w wr) (fun ix _ => C.length - (intOf ix).toNat)
  case atStart => exact ⟨0, Nat.zero_le _, rfl, fun i _ h => absurd h (Nat.not_lt_zero _), Below.refl _ _⟩
  case round =>
    obtain ⟨k, hk, rfl, hno, hbr⟩ := hrel
    have HNO := Lib.hid hno
    have HB := Lib.hid hbr
    have hsz := hbr.size
    clear hno hbr
    by_cases hlt : k < C.length
    · have hki : (k : Int) < (C.length : Int) := by omega
      obtain ⟨g, cap, x, e1, _, _, hc1, hf1⟩ := (HU.out wr HB.out).at k hlt
      obtain ⟨rfl, _, rfl⟩ := Value.slice.inj e1
      have K := Lib.hid (HC.out wr x k hlt HB.out hf1.ints)
      have HFK := Lib.hid (HF.out k hlt HNO.out)
      obtain ⟨ua, uc, uf, _⟩ := hf1.slice
      subst uf
      clear hf1 e1
      cases hz : p C[k] with
      | false =>
        have HNX := Lib.hid (show ∀ i (hi : i < C.length), i < k + 1 → p C[i] = false from fun i hi h => by
          by_cases e : i = k
          · subst e; exact hz
          · exact HNO.out i hi (by omega))
        rw [hz] at K
        clear hz
        go_wp2_with (go_at_call 67; refine K.out.mono ?_; rintro e w2 ⟨rfl, hb2⟩; have HB2 := Lib.hid hb2; clear hb2)
        go_roundw
        case rel => exact ⟨k + 1, hlt, by go_num, HNX.out, HB.out.trans (HB2.out.mono hsz)⟩
        case measure => simp [intOf]; omega
      | true =>
        have HP := Lib.hid (HFK.out hz)
        rw [hz] at K
        clear hz
        go_wp2_with (go_at_call 67; refine K.out.mono ?_; rintro e w2 ⟨rfl, hb2⟩; have HB2 := Lib.hid hb2; clear hb2)
        go_ret
        exact ⟨ret_int (by rw [← HR.out, HP.out]), HB.out.trans (HB2.out.mono hsz)⟩
    · obtain rfl : k = C.length := by omega
      have hki : ¬ (C.length : Int) < (C.length : Int) := by omega
      have HP := Lib.hid (HE.out C.length (Nat.le_refl _) HNO.out)
      go_wp2
      go_ret
      exact ⟨ret_int (by rw [← HR.out, HP.out]), HB.out⟩
set_option maxHeartbeats 400000 in
theorem class1_any (bx : Nat) (m : Int) (u : Value) (xs : List Int) (w : World) (hx : w.cell? ⟨bx, 0, none⟩ = some (.int .i64 m)) (hu : Ints w u xs) :
    Calls Tryz.prog 98 #[u, .pointer (some ⟨bx, 0, none⟩)] w fun e w' => e = .returned (.bool (xs.any fun x => m == x)) ∧ Below w.heap.size w w' := by
  have C := Lib.hid (Contains_any u xs m w hu)
  obtain ⟨a, cp, rfl, -⟩ := hu
  obtain ⟨R, hR⟩ : ∃ R, (xs.any fun x => m == x) = R := ⟨_, rfl⟩
  rw [hR] at C ⊢
  clear hR
  go_enter Tryz.func98, Tryz.ntmps98
  go_wp2_with (go_at_call 42; refine C.out.mono ?_; rintro e w' ⟨rfl, rfl⟩)
  go_ret
  exact ⟨rfl, Below.refl _ _⟩
set_option maxHeartbeats 400000 in
theorem inverse1_any (bx : Nat) (v : Value) (ys : List Int) (u : Value) (xs : List Int) (w : World) (hx : w.cell? ⟨bx, 0, none⟩ = some v) (hv : Ints w v ys) (hu : Ints w u xs) :
    Calls Tryz.prog 67 #[u, .pointer (some ⟨bx, 0, none⟩)] w fun e w' => e = .returned (.bool (decide (xs = ys))) ∧ Below w.heap.size w w' := by
  have C := Lib.hid (Equal_any u v xs ys w hu hv)
  obtain ⟨a, cp, rfl, -⟩ := hu
  obtain ⟨a2, cp2, rfl, -⟩ := hv
  obtain ⟨R, hR⟩ : ∃ R, (decide (xs = ys)) = R := ⟨_, rfl⟩
  rw [hR] at C ⊢
  clear hR
  go_enter Tryz.func67, Tryz.ntmps67
  go_wp2_with (go_at_call 28; refine C.out.mono ?_; rintro e w' ⟨rfl, hb⟩)
  go_ret
  exact ⟨rfl, hb⟩
set_option maxHeartbeats 400000 in
theorem class_any {S : Nat → Prop} {B : Nat} (u : Value) (C : List (List Nat)) (m : Int) (w : World) (hu : RowsF S B w u C) (hl : C.length ≤ 1000000) :
    Calls Tryz.prog 66 #[u, .int .i64 m] w fun e w' => e = .returned (.int .i64 (fiI (fun c => (toI c).any fun x => m == x) C)) ∧ Below w.heap.size w w' := by
  have HU := Lib.hid (fun (w' : World) (hb : Below w.heap.size w w') => hu.kept (S' := fun _ => True) (Sm.of_below hb) (fun _ _ => trivial) (fun _ _ => trivial))
  obtain ⟨W1, hW1⟩ : ∃ x, w.alloc (.cells #[.int .i64 m] 3) = x := ⟨_, rfl⟩
  have hb1 : Below w.heap.size w W1 := by rw [← hW1]; exact (Below.refl _ _).alloc (Nat.le_refl _) _
  have hc1 : W1.cell? ⟨w.heap.size, 0, none⟩ = some (.int .i64 m) := by rw [← hW1]; exact cell_new1 w _ _
  have hs1 : w.heap.size < W1.heap.size := by rw [← hW1]; simp
  have CI := Lib.hid (IndexS_class (bx := w.heap.size) (fun c => (toI c).any fun x => m == x) u C W1 (HU.out _ hb1) hl (fun w' x k hk hb hx => class1_any _ m x _ w' ((hb.cell (p := ⟨w.heap.size, 0, none⟩) hs1).trans hc1) hx))
  have HB1 := Lib.hid hb1
  clear hb1 hc1 hs1
  rw [← hW1] at CI HB1
  clear hW1
  obtain ⟨a, cp, rfl⟩ := hu.form
  obtain ⟨R, hR⟩ : ∃ R, fiI (fun c => (toI c).any fun x => m == x) C = R := ⟨_, rfl⟩
  rw [hR] at CI ⊢
  clear hu hR
  go_enter Tryz.func66, Tryz.ntmps66
  go_wp2_with (go_at_call 59; refine CI.out.mono ?_; rintro e w2 ⟨rfl, hb⟩)
  go_ret
  exact ⟨rfl, HB1.out.trans (hb.mono HB1.out.size)⟩
end Go.Proofs.YtdackakjcnnofaaGreat
