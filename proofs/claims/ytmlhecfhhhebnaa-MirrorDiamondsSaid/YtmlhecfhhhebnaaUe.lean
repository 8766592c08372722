/- MirrorDiamonds: the walks. -/
import Derived.Test.YtmlhecfhhhebnaaN3
namespace Go.Proofs.Ytmlhecfhhhebnaa
open Go.RowKit
attribute [local go_sem] Oper.semAt_some

theorem Fz.cut {S : Nat → Prop} {B : Nat} {w : World} {v : Value} {xs : List Int} (h : Fz (fun k => B ≤ k) w v xs) : Fz (fun k => S k ∨ (B ≤ k ∧ k < w.heap.size)) w v xs := by
  obtain ⟨a, c, rfl, h1, h2, h3⟩ := h
  refine ⟨a, c, rfl, h1, h2, fun hne => ?_⟩
  obtain ⟨b, off, rfl, hS, hb, hc⟩ := h3 hne
  exact ⟨b, off, rfl, .inr ⟨hS, hb⟩, hb, hc⟩
theorem RowsF.cut {S : Nat → Prop} {B H : Nat} {w : World} {v : Value} {ls : List (List Nat)} (h : RowsF (fun k => B ≤ k) H w v ls) : RowsF (fun k => S k ∨ (B ≤ k ∧ k < w.heap.size)) H w v ls := by
  obtain ⟨vs, ho, hr⟩ := h
  exact ⟨vs, ho, fun i u l h1 h2 => (hr i u l h1 h2).cut⟩

set_option maxRecDepth 20000 in
set_option maxHeartbeats 4000000 in
theorem DiaL_no (K : Nat) (n : Int) (vu : Value) (xs : List Int) (w : World) (hK : K < 256) (hx : Ints w vu xs) (h : okI K n [xs] = false) :
    Calls Try.prog 13 #[grpI K n, vu] w (TrueM w) := by
  have AW := Lib.hid (fun w' => awake_any w')
  have OF := Lib.hid (fun w' => Of_any K n w')
  have LU := Lib.hid (fun w' (hb : Below (w.heap.size + 1) (w.alloc (.cells #[.int .u8 (K : Nat), .int .i64 n] 23)) w') => list_any vu xs w' (intsS hx hb))
  have CV := Lib.hid (fun v' w' (hi : Ints w' v' (xs.take 34)) => Covers_no K n v' _ w' hK hi (by rw [okI_take1]; exact h))
  have NL := Lib.hid (fun v' w' (hi : Ints w' v' (xs.take 34)) => Length_no K n v' _ w' hK hi (by rw [okI_take1]; exact h))
  have hlu : (xs.take 34).length ≤ 17592186044416 := by rw [List.length_take]; omega
  obtain ⟨a, c, rfl, hx1⟩ := hx
  unfold grpI at *
  clear hx1 h
  go_enter Try.func13, Try.ntmps13
  go_wp2_with (first
      | (go_at_call 20; refine (AW.out _).mono ?_; rintro e w7 ⟨rfl, hb7'⟩; have hb7 := chainS hb6 hb7')
      | (go_at_call 41; refine (NL.out v5 w5 (ho5.ints hlu)).mono ?_; rintro e w6 ⟨rfl, hb6'⟩; have hb6 := chainS hb5 hb6'; have g60 := (heldS hb6).at (i := 0) rfl; have g61 := (heldS hb6).at (i := 1) rfl)
      | (go_at_call 17; refine (LU.out w4 hb4).mono ?_; rintro e w5 ⟨v5, rfl, ho5, hb5'⟩; have hb5 := chainS hb4 hb5')
      | (go_at_call 16; refine (OF.out _).mono ?_; rintro e w4 ⟨rfl, hb4'⟩; have hb4 := chainS hb3 hb4')
      | (go_at_call 54; refine (CV.out v2 w2 (ho2.ints hlu)).mono ?_; rintro e w3 ⟨rfl, hb3'⟩; have hb3 := chainS hb2 hb3'; have g30 := (heldS hb3).at (i := 0) rfl; have g31 := (heldS hb3).at (i := 1) rfl)
      | (go_at_call 17; refine (LU.out w1 hb1).mono ?_; rintro e w2 ⟨v2, rfl, ho2, hb2'⟩; have hb2 := chainS hb1 hb2')
      | (go_at_call 16; refine (OF.out _).mono ?_; rintro e w1 ⟨rfl, hb1q⟩; have hb1 := hb1q.mono (show w.heap.size + 1 ≤ _ by simp)))
  go_ret
  exact ⟨rfl, chainE hb7⟩

/-- What is kept of the two lists: elements of the table, as many counts, small ones. -/
structure DiaOk (N B : Nat) (st : List Nat × List Nat) : Prop where
  lt : ∀ u ∈ st.1, u < N
  len : st.1.length = st.2.length
  le : ∀ c ∈ st.2, c ≤ B
  few : st.1.length ≤ B
theorem DiaOk.nil (N : Nat) : DiaOk N 0 ([], []) := ⟨by simp, rfl, by simp, Nat.le_refl _⟩
theorem DiaOk.mono {N B B' : Nat} {st : List Nat × List Nat} (h : DiaOk N B st) (hB : B ≤ B') : DiaOk N B' st := ⟨h.lt, h.len, fun c hc => Nat.le_trans (h.le c hc) hB, Nat.le_trans h.few hB⟩
theorem DiaOk.step {N B k : Nat} {st : List Nat × List Nat} (h : DiaOk N B st) (hk : k < N) : DiaOk N (B + 1) (diaS st k) := by
  refine ⟨?_, diaS_len st k h.len, diaS_le st k B h.le (by omega), ?_⟩
  · unfold diaS
    split
    · exact h.lt
    · intro u hu
      rcases List.mem_append.1 hu with hu | hu
      · exact h.lt u hu
      · have : u = k := by simpa using hu
        omega
  · have := h.few
    unfold diaS
    split
    · exact Nat.le_succ_of_le this
    · rw [List.length_append]; simp; omega
theorem fold_take {α : Type} (f : α → Nat → α) (l : List Nat) (b : Nat) (h : b < l.length) (z : α) : (l.take (b + 1)).foldl f z = f ((l.take b).foldl f z) l[b] := by
  rw [take_succ' l b h, List.foldl_append, List.foldl_cons, List.foldl_nil]
theorem dia_take (C : List (List Nat)) (js : List Nat) (a : Nat) (h : a < js.length) (z : List Nat × List Nat) : (js.take (a + 1)).foldl (diaJ C) z = (C.getD js[a] []).foldl diaS ((js.take a).foldl (diaJ C) z) := by
  rw [fold_take, diaJ]
theorem dia_row {W C : List (List Nat)} {js : List Nat} {N ln : Nat} (h : ∀ a (ha : a < js.length), js[a] < N ∧ lenX W js[a] + 1 = ln) (a : Nat) (ha : a < js.length) : ∃ j, js[a] = j ∧ j < N ∧ lenX W j + 1 = ln ∧ ∀ z, (js.take (a + 1)).foldl (diaJ C) z = (C.getD j []).foldl diaS ((js.take a).foldl (diaJ C) z) := ⟨_, rfl, (h a ha).1, (h a ha).2, fun z => dia_take C js a ha z⟩
theorem dia_row2 {js : List Nat} {N : Nat} (h : ∀ k ∈ js, k < N) (b : Nat) (hb : b < js.length) : ∃ k, js[b] = k ∧ k < N ∧ ∀ z, (js.take (b + 1)).foldl diaS z = diaS ((js.take b).foldl diaS z) k := ⟨_, rfl, h _ (List.getElem_mem hb), fun z => fold_take diaS js b hb z⟩
theorem dia_found {N B : Nat} {st : List Nat × List Nat} {k p : Nat} (hok : DiaOk N B st) (hp : st.1.idxOf k = p) (hlt : p < st.1.length) : ∃ c, c ≤ B ∧ p < st.2.length ∧ diaS st k = (st.1, st.2.set p (c + 1)) ∧
    ∀ (e : TypeId) (H : Nat) (w : World) (g m cap : Nat), OwnI e H w (.slice (some ⟨g, 0, none⟩) m cap) (toI st.2) → w.cell? ⟨g, p, none⟩ = some (.int .i64 (c : Int)) := by
  have hp2 : p < st.2.length := by rw [← hok.len]; exact hlt
  refine ⟨st.2[p], hok.le _ (List.getElem_mem hp2), hp2, ?_, fun e H w g m cap h => h.cellN p hp2⟩
  unfold diaS
  rw [hp, if_pos hlt, modify_set _ _ hp2]
theorem sm_cell {S : Nat → Prop} {w : World} (g j : Nat) (x : Value) (h : ∀ q, S q → q ≠ g) : Sm S w (w.setCell ⟨g, j, none⟩ x) := ⟨rfl, rfl, rfl, by simp [World.setCell], fun q hq _ => Below.heap_setCell w ⟨g, j, none⟩ _ q (h q hq)⟩
theorem dia_app {W : List (List Nat)} {H : Nat} {w w4 : World} {v v4 t : Value} {st : List Nat × List Nat} {S : Nat → Prop} {k : Nat} (h : DiaI W H w v t st S) (hr : RowsF S H w4 v4 (st.1.map (fun u => W.getD u []) ++ [W.getD k []])) (hg : w.grownBy w4 v.ownBlock) (ho : v4.ownBlock = v.ownBlock ∨ v4.ownBlock = some w.heap.size) : DiaI W H w4 v4 t (st.1 ++ [k], st.2) S :=
  ⟨(h.app hr hg ho).1, (h.app hr hg ho).2.1, (h.app hr hg ho).2.2⟩
theorem dia_app2 {W : List (List Nat)} {H : Nat} {w w4 : World} {v t t4 : Value} {l1 l2 : List Nat} {S : Nat → Prop} (h : DiaI W H w v t (l1, l2) S) (hr : OwnI 3 H w4 t4 (toI l2 ++ [((1 : Nat) : Int)])) (hg : w.grownBy w4 t.ownBlock) (ho : t4.ownBlock = t.ownBlock ∨ t4.ownBlock = some w.heap.size) : DiaI W H w4 v t4 (l1, l2 ++ [1]) S :=
  h.app2 (st' := (l1, l2 ++ [1])) rfl (by rw [toI_append]; exact hr) hg ho
theorem own_twos {e : TypeId} {H : Nat} {w : World} {v : Value} {T : List Nat} (h : OwnI e H w v (toI T)) (h2 : ∀ c ∈ T, c = 2) : ∃ a c, v = .slice a T.length c ∧ ∀ i, i < T.length → ∃ b off, a = some ⟨b, off, none⟩ ∧ w.cell? ⟨b, off + i, none⟩ = some (.int .i64 2) := by
  obtain ⟨a, c, rfl⟩ := h.form
  rw [toI_length] at h ⊢
  refine ⟨a, c, rfl, fun i hi => ?_⟩
  obtain ⟨g, cap, e1⟩ := h.ne_nil hi
  obtain ⟨rfl, _, rfl⟩ := Value.slice.inj e1
  refine ⟨g, 0, rfl, ?_⟩
  rw [Nat.zero_add, h.cellN i hi, h2 _ (List.getElem_mem hi)]
  rfl
theorem toI_le12 {l : List Nat} (h : l.length ≤ 12) : (toI l).length ≤ 17592186044416 := by simp only [toI_length]; omega
set_option maxRecDepth 20000 in
set_option maxHeartbeats 4000000 in
theorem DiaL_zero (K n : Nat) (vu : Value) (xs : List Int) (w : World) (hv : validB K n = true) (hx : Ints w vu xs) (q1 : wordB (mirs K n) xs = true) (hz : (oCT K n).getD (ix K n xs) [] = []) :
    Calls Try.prog 13 #[.agg #[.int .u8 (K : Nat), .int .i64 (n : Nat)], vu] w (TrueM w) := by

  have n1 := word_nat q1
  have hil := ix_lt hv q1
  have T := tabW hv
  have hN : (wordsG K n).length ≤ 120 := (tkG hv).small
  have OF := Lib.hid (fun w' => Of_any K (n : Int) w')
  have AW := Lib.hid (fun w' => awake_any w')
  have LU := Lib.hid (fun w' (hb : Below (w.heap.size + 1) (w.alloc (.cells #[.int .u8 (K : Nat), .int .i64 (n : Nat)] 23)) w') => by have := list_any vu xs w' (intsS hx hb); rw [List.take_of_length_le (by omega)] at this; exact this)
  have hD := dia_at hv hil
  have hcov := cov_T hv hil
  obtain ⟨i, hi⟩ : ∃ i, ix K n xs = i := ⟨_, rfl⟩
  have CV := Lib.hid (fun v' w' (hi' : Ints w' v' xs) => by have := CoversB_yes K n v' xs w' hv hi' q1; rw [hcov, hi] at this; exact this)
  have NL := Lib.hid (fun v' w' (hi' : Ints w' v' xs) => by have := Length_yes K n v' xs w' hv hi' q1; rw [hi] at this; exact this)
  have CJ := Lib.hid (fun (j : Nat) (hj : j < (wordsG K n).length) v' w' (hi' : Ints w' v' (toI ((wordsG K n).getD j []))) => by have := CoversB_yes K n v' _ w' hv hi' (T.wd j hj); rw [T.at' j hj, cov_T hv hj] at this; exact this)
  rw [hi] at hD hcov hil
  obtain ⟨js, hjs⟩ : ∃ js, (oCT K n).getD i [] = js := ⟨_, rfl⟩
  rw [hjs] at CV hcov
  have HJ := Lib.hid (fun (a : Nat) (ha : a < js.length) => show js[a] < (wordsG K n).length ∧ lenX (wordsG K n) js[a] + 1 = lenX (wordsG K n) i by
    have hm : js[a] ∈ covL (wordsG K n) (nextG K n) i := by rw [hcov]; exact List.getElem_mem ha
    unfold covL at hm
    obtain ⟨h1, h2⟩ := List.mem_filter.1 hm
    unfold covB at h2
    simp only [Bool.and_eq_true, decide_eq_true_eq] at h2
    exact ⟨List.mem_range.1 h1, h2.1⟩)
  have hlu := word_len q1
  have HFEW := Lib.hid hD.few
  have HTWO := Lib.hid (show ∀ c ∈ (js.foldl (diaJ (oCT K n)) ([], [])).2, c = 2 by have := hD.two; unfold diaI at this; rw [hjs] at this; exact this)
  have hnone := hD.none
  rw [hjs] at hnone HFEW
  obtain ⟨ln, hln⟩ : ∃ ln, lenX (wordsG K n) i = ln := ⟨_, rfl⟩
  rw [hln] at NL hnone HJ
  rw [hi] at hz
  obtain rfl : js = [] := hjs.symm.trans hz
  obtain rfl : ln = 0 := by simpa using hnone.symm
  obtain ⟨a, c, rfl, hx1⟩ := hx
  unfold grpI at *
  clear hx1 n1 q1 hil T hi hD hcov hln hv hz hjs hnone HTWO HFEW CJ
  go_enter Try.func13, Try.ntmps13
  go_wp2_with (first
      | (go_at_call 41; refine (NL.out v5 w5 (ho5.ints hlu)).mono ?_; rintro e w6 ⟨rfl, hb6'⟩; have hb6 := chainS hb5 hb6'; have g60 := (heldS hb6).at (i := 0) rfl; have g61 := (heldS hb6).at (i := 1) rfl)
      | (go_at_call 17; refine (LU.out w4 hb4).mono ?_; rintro e w5 ⟨v5, rfl, ho5, hb5'⟩; have hb5 := chainS hb4 hb5')
      | (go_at_call 16; refine (OF.out _).mono ?_; rintro e w4 ⟨rfl, hb4'⟩; have hb4 := chainS hb3 hb4')
      | (go_at_call 54; refine (CV.out v2 w2 (ho2.ints hlu)).mono ?_; rintro e w3 ⟨v3, rfl, hr3, hb3'⟩; have hb3 := chainS hb2 hb3'; have g30 := (heldS hb3).at (i := 0) rfl; have g31 := (heldS hb3).at (i := 1) rfl; obtain ⟨a3, c3, e3⟩ := hr3.form; rw [List.map_nil, List.length_nil] at e3; subst e3)
      | (go_at_call 17; refine (LU.out w1 hb1).mono ?_; rintro e w2 ⟨v2, rfl, ho2, hb2'⟩; have hb2 := chainS hb1 hb2')
      | (go_at_call 16; refine (OF.out _).mono ?_; rintro e w1 ⟨rfl, hb1q⟩; have hb1 := hb1q.mono (show w.heap.size + 1 ≤ _ by simp)))
  have HB6 := Lib.hid hb6
  clear hb6 hb6' hb5 hb5' hb4 hb4' hb3 hb3' hb2 hb2' hb1 hb1q g60 g61 g30 g31 hr3 ho2 ho5
  go_loopw [10, 59] (fun t ix wr => t = .slice none 0 0 ∧ ix = .int .i64 0 ∧ Below w6.heap.size w6 wr) (fun _ _ _ => 0)
  case atStart => exact ⟨rfl, rfl, Below.refl _ _⟩
  case round =>
    obtain ⟨rfl, rfl, hb⟩ := hrel
    have HB7 := Lib.hid (chainS HB6.out hb)
    clear hb
    go_wp2
    go_loopw [106] (fun ix wy => ix = .int .i64 0 ∧ Below wr.heap.size wr wy) (fun _ _ => 0)
    case atStart => exact ⟨rfl, Below.refl _ _⟩
    case round =>
      obtain ⟨rfl, hb⟩ := hrel
      have HB8 := Lib.hid (chainS HB7.out hb)
      clear hb
      go_wp2_with (go_at_call 20; refine (AW.out _).mono ?_; rintro e w7 ⟨rfl, hb7⟩)
      go_ret
      exact ⟨rfl, chainE (chainS HB8.out hb7)⟩
set_option maxRecDepth 20000 in
set_option maxHeartbeats 8000000 in
theorem DiaL_pos (K n : Nat) (vu : Value) (xs : List Int) (w : World) (hv : validB K n = true) (hx : Ints w vu xs) (q1 : wordB (mirs K n) xs = true) (hz : (oCT K n).getD (ix K n xs) [] ≠ []) :
    Calls Try.prog 13 #[.agg #[.int .u8 (K : Nat), .int .i64 (n : Nat)], vu] w (TrueM w) := by

  have n1 := word_nat q1
  have hil := ix_lt hv q1
  have T := tabW hv
  have hN : (wordsG K n).length ≤ 120 := (tkG hv).small
  have OF := Lib.hid (fun w' => Of_any K (n : Int) w')
  have AW := Lib.hid (fun w' => awake_any w')
  have LU := Lib.hid (fun w' (hb : Below (w.heap.size + 1) (w.alloc (.cells #[.int .u8 (K : Nat), .int .i64 (n : Nat)] 23)) w') => by have := list_any vu xs w' (intsS hx hb); rw [List.take_of_length_le (by omega)] at this; exact this)
  have hD := dia_at hv hil
  have hcov := cov_T hv hil
  obtain ⟨i, hi⟩ : ∃ i, ix K n xs = i := ⟨_, rfl⟩
  have CV := Lib.hid (fun v' w' (hi' : Ints w' v' xs) => by have := CoversB_yes K n v' xs w' hv hi' q1; rw [hcov, hi] at this; exact this)
  have NL := Lib.hid (fun v' w' (hi' : Ints w' v' xs) => by have := Length_yes K n v' xs w' hv hi' q1; rw [hi] at this; exact this)
  have CJ := Lib.hid (fun (j : Nat) (hj : j < (wordsG K n).length) v' w' (hi' : Ints w' v' (toI ((wordsG K n).getD j []))) => by have := CoversB_yes K n v' _ w' hv hi' (T.wd j hj); rw [T.at' j hj, cov_T hv hj] at this; exact this)
  rw [hi] at hD hcov hil
  obtain ⟨js, hjs⟩ : ∃ js, (oCT K n).getD i [] = js := ⟨_, rfl⟩
  rw [hjs] at CV hcov
  have HJ := Lib.hid (fun (a : Nat) (ha : a < js.length) => show js[a] < (wordsG K n).length ∧ lenX (wordsG K n) js[a] + 1 = lenX (wordsG K n) i by
    have hm : js[a] ∈ covL (wordsG K n) (nextG K n) i := by rw [hcov]; exact List.getElem_mem ha
    unfold covL at hm
    obtain ⟨h1, h2⟩ := List.mem_filter.1 hm
    unfold covB at h2
    simp only [Bool.and_eq_true, decide_eq_true_eq] at h2
    exact ⟨List.mem_range.1 h1, h2.1⟩)
  have hlu := word_len q1
  have HFEW := Lib.hid hD.few
  have HTWO := Lib.hid (show ∀ c ∈ (js.foldl (diaJ (oCT K n)) ([], [])).2, c = 2 by have := hD.two; unfold diaI at this; rw [hjs] at this; exact this)
  have hnone := hD.none
  rw [hjs] at hnone HFEW
  obtain ⟨ln, hln⟩ : ∃ ln, lenX (wordsG K n) i = ln := ⟨_, rfl⟩
  rw [hln] at NL hnone HJ
  rw [hi, hjs] at hz
  have hjp : 0 < js.length := by cases js with | nil => exact absurd rfl hz | cons _ _ => simp
  have hlp : 0 < ln := by
    cases ln with
    | zero => simp at hnone; exact absurd hnone hz
    | succ _ => omega
  have hz1 : decide (0 < js.length) = true := by simpa using hjp
  have hz2 : decide (0 < ln) = true := by simpa using hlp
  have hz3 : decide ((0 : Int) < (js.length : Int)) = true := by simpa using hjp
  have hz4 : decide ((0 : Int) < (ln : Int)) = true := by simpa using hlp
  have hl12 : ln ≤ 12 := by rw [← hln]; unfold lenX; rw [getDL hil]; exact (tkG hv).short _ (List.getElem_mem hil)
  have hwr : IntKind.i64.wrap ((ln : Int) - 1) = (ln : Int) - 1 := IntWalk.i64_in _ (by omega)
  have HJA := Lib.hid (dia_row (C := oCT K n) HJ.out)
  have HSHORT := Lib.hid (fun (j : Nat) (hj : j < (wordsG K n).length) => show ((wordsG K n).getD j []).length ≤ 12 by
    rw [getDL hj]
    exact (tkG hv).short _ (List.getElem_mem hj))
  have HCL := Lib.hid (fun (j : Nat) (hj : j < (wordsG K n).length) => show ∀ k ∈ (oCT K n).getD j [], k < (wordsG K n).length from fun k hk => by
    rw [← cov_T hv hj] at hk
    unfold covL at hk
    exact List.mem_range.1 (List.mem_filter.1 hk).1)
  have HFJ := Lib.hid (fun (j : Nat) (hj : j < (wordsG K n).length) => (dia_at hv hj).few)
  have HIW := Lib.hid (fun (ms : List Nat) (k : Nat) (hm : ∀ u ∈ ms, u < (wordsG K n).length) (hk : k < (wordsG K n).length) => idx_words (ms := ms) hv hm hk)
  have hjl := HFEW.out
  obtain ⟨a, c, rfl, hx1⟩ := hx
  unfold grpI at *
  clear hx1 n1 q1 hil T hi hD hcov hln hv hz hjs hnone
  go_enter Try.func13, Try.ntmps13
  go_upto_region 9 with (first
      | (go_at_call 41; refine (NL.out v5 w5 (ho5.ints hlu)).mono ?_; rintro e w6 ⟨rfl, hb6'⟩; have hb6 := chainS hb5 hb6'; have g60 := (heldS hb6).at (i := 0) rfl; have g61 := (heldS hb6).at (i := 1) rfl)
      | (go_at_call 17; refine (LU.out w4 hb4).mono ?_; rintro e w5 ⟨v5, rfl, ho5, hb5'⟩; have hb5 := chainS hb4 hb5')
      | (go_at_call 16; refine (OF.out _).mono ?_; rintro e w4 ⟨rfl, hb4'⟩; have hb4 := chainS hb3 hb4')
      | (go_at_call 54; refine (CV.out v2 w2 (ho2.ints hlu)).mono ?_; rintro e w3 ⟨v3, rfl, hr3, hb3'⟩; have hb3 := chainS hb2 hb3'; have g30 := (heldS hb3).at (i := 0) rfl; have g31 := (heldS hb3).at (i := 1) rfl; obtain ⟨a3, c3, e3⟩ := hr3.form; rw [List.length_map] at e3; subst e3)
      | (go_at_call 17; refine (LU.out w1 hb1).mono ?_; rintro e w2 ⟨v2, rfl, ho2, hb2'⟩; have hb2 := chainS hb1 hb2')
      | (go_at_call 16; refine (OF.out _).mono ?_; rintro e w1 ⟨rfl, hb1q⟩; have hb1 := hb1q.mono (show w.heap.size + 1 ≤ _ by simp)))
  have HR3 := Lib.hid (fun wr (hb : Below w6.heap.size w6 wr) => (((hr3.below hb4').below hb5').below hb6').below hb)
  have HGG := Lib.hid (fun wr (hb : Below w6.heap.size w6 wr) => heldS (chainS hb6 hb))
  have HB6 := Lib.hid hb6
  have HJL := Lib.hid (show js.length ≤ 20 from hjl)
  clear hr3 hb6 hb6' hb5 hb5' hb4 hb4' hb3 hb3' hb2 hb2' hb1 hb1q g60 g61 g30 g31 ho2 ho5 hz1 hz2 hz3 hz4
  go_wp2
  go_loopw [9, 10, 59] (fun v9 v10 ix wr => ∃ a : Nat, a ≤ js.length ∧ ix = .int .i64 a ∧ (∃ S, DiaI (wordsG K n) w6.heap.size wr v9 v10 ((js.take a).foldl (diaJ (oCT K n)) ([], [])) S) ∧ Below w6.heap.size w6 wr ∧ DiaOk (wordsG K n).length (20 * a) ((js.take a).foldl (diaJ (oCT K n)) ([], []))) (fun _ _ ix _ => js.length - (intOf ix).toNat)
  case atStart => exact ⟨0, Nat.zero_le _, rfl, ⟨_, DiaI.nil _ _ _⟩, Below.refl _ _, DiaOk.nil _⟩
  case round =>
    obtain ⟨a, ha, rfl, ⟨S, hD⟩, hb, hok⟩ := hrel
    by_cases hlt : a < js.length
    · obtain ⟨gx, capx, ux, ex, _, hgl, hcx, hfx⟩ := (HR3.out wr hb).at a (by rw [List.length_map]; exact hlt)
      rw [List.length_map] at ex
      rw [List.getElem_map] at hfx
      obtain ⟨rfl, _, rfl⟩ := Value.slice.inj ex
      obtain ⟨j, hj, hjN, hjl1, hts⟩ := HJA.out a hlt
      have HTS := Lib.hid (hts ([], []))
      have HJ12 := Lib.hid (toI_le12 (HSHORT.out j hjN))
      have hfew2 := HFJ.out j hjN
      have HLT := Lib.hid (HCL.out j hjN)
      have CJ2 := Lib.hid (CJ.out j hjN)
      obtain ⟨st, hst⟩ : ∃ st, (js.take a).foldl (diaJ (oCT K n)) ([], []) = st := ⟨_, rfl⟩
      rw [hst] at hD hok HTS
      rw [hj] at hfx
      obtain ⟨js2, hjs2⟩ : ∃ js2, (oCT K n).getD j [] = js2 := ⟨_, rfl⟩
      rw [hjs2] at HTS hfew2 HLT CJ2
      obtain ⟨ax, cx, ufx, hlx⟩ : ∃ ax cx, ux = .slice ax (lenX (wordsG K n) j) cx ∧ True := by
        obtain ⟨ax, cx, e, _⟩ := hfx.slice
        rw [toI_length] at e
        exact ⟨ax, cx, e, trivial⟩
      subst ufx
      obtain ⟨lx, hlxe⟩ : ∃ lx, lenX (wordsG K n) j = lx := ⟨_, rfl⟩
      rw [hlxe] at hjl1 hfx hcx
      have hne : ((lx : Int) != (ln : Int) - 1) = false := by simp; omega
      have hai : (a : Int) < (js.length : Int) := by omega
      have HDI := Lib.hid hD
      have HOK := Lib.hid hok
      have HBW := Lib.hid hb
      have g0 := (HGG.out wr hb).at (i := 0) rfl
      have g1 := (HGG.out wr hb).at (i := 1) rfl
      have HFX := Lib.hid hfx.ints
      clear hD hok hb hfx hst hj hjs2 hlx hlxe ex hgl hts
      go_upto_region 18 with (first
        | (go_at_call 54; refine (CJ2.out v12 wb2 (ho12.ints HJ12.out)).mono ?_; rintro e wb3 ⟨v13, rfl, hr13, hb13⟩; obtain ⟨a13, c13, e13⟩ := hr13.form; rw [List.length_map] at e13; subst e13)
        | (go_at_call 35; refine (Clone_any _ _ wb1 (HFX.out.below hb11)).mono ?_; rintro e wb2 ⟨v12, rfl, ho12, hb12⟩)
        | (go_at_call 16; refine (OF.out wr).mono ?_; rintro e wb1 ⟨rfl, hb11⟩))
      clear hwr
      have HJB := Lib.hid (dia_row2 HLT.out)
      have hb2r := hb11.trans (hb12.mono hb11.size)
      have HB3 := Lib.hid (HBW.out.trans ((hb2r.trans (hb13.mono hb2r.size)).mono HBW.out.size))
      obtain ⟨S2, hS2, hV13, hD2, hR13⟩ : ∃ S2 : Nat → Prop, (∀ q, (Value.slice a13 js2.length c13).ownBlock = some q → S2 q) ∧ True ∧ DiaI (wordsG K n) w6.heap.size wb3 u9 u10 st S2 ∧ RowsF S2 wb2.heap.size wb3 (.slice a13 js2.length c13) (js2.map fun u => (wordsG K n).getD u []) :=
        ⟨_, fun q hq => .inr (hr13.own q hq), trivial, (HDI.out.below hb2r).more hb13, hr13.cut⟩
      have HV13 := Lib.hid hS2
      have HD2 := Lib.hid hD2
      have HR13 := Lib.hid hR13
      clear hS2 hV13 hD2 hR13 hr13 hb2r hb11 hb12 hb13 ho12 g0 g1
      go_loopw [9, 10, 80] (fun v9 v10 ix wx => ∃ b : Nat, b ≤ js2.length ∧ ix = .int .i64 b ∧ DiaI (wordsG K n) w6.heap.size wx v9 v10 ((js2.take b).foldl diaS st) S2 ∧ Below w6.heap.size w6 wx ∧ Sm S2 wb3 wx ∧ DiaOk (wordsG K n).length (20 * a + b) ((js2.take b).foldl diaS st)) (fun _ _ ix _ => js2.length - (intOf ix).toNat)
      case atStart => exact ⟨0, Nat.zero_le _, rfl, HD2.out, HB3.out, Sm.refl _ _, HOK.out.mono (by omega)⟩
      case round =>
        obtain ⟨b, hbl, rfl, hD, hb, hsm, hok⟩ := hrel
        by_cases hlt2 : b < js2.length
        · obtain ⟨gy, capy, uy, ey, _, hgl, hcy, hfy⟩ := (HR13.out.kept hsm (fun _ h => h) HV13.out).at b (by rw [List.length_map]; exact hlt2)
          rw [List.length_map] at ey
          rw [List.getElem_map] at hfy
          obtain ⟨rfl, _, rfl⟩ := Value.slice.inj ey
          obtain ⟨k, hk, hkN, hts2⟩ := HJB.out b hlt2
          have HTS2 := Lib.hid (hts2 st)
          obtain ⟨st2, hst2⟩ : ∃ st2, (js2.take b).foldl diaS st = st2 := ⟨_, rfl⟩
          rw [hst2] at hD hok HTS2
          rw [hk] at hfy
          have HI := Lib.hid (HIW.out st2.1 k hok.lt hkN)
          have HOKS := Lib.hid (hok.step hkN)
          have hfew3 : st2.1.length ≤ 20 * a + b := hok.few
          have IX := Lib.hid (fun (w' : World) (hb' : Below wr.heap.size wr w') (hc : w'.cell? ⟨wr.heap.size, 0, none⟩ = some uy) => IndexR_any (B := wr.heap.size) u9 uy _ _ w' (hD.below hb').rows (hfy.ints.below hb') hc (by rw [List.length_map]; omega))
          have hbi0 : (b : Int) < (js2.length : Int) := by omega
          have HDI2 := Lib.hid hD
          have HOK2 := Lib.hid hok
          have HBX := Lib.hid hb
          have HSM := Lib.hid hsm
          have HFY := Lib.hid hfy
          obtain ⟨ay, ly, cy, ufy⟩ : ∃ ay ly cy, uy = .slice ay ly cy := by
            obtain ⟨ax, cx, e, _⟩ := hfy.slice
            exact ⟨ax, _, cx, e⟩
          subst ufy
          clear hD hok hb hsm hfy hst2 hk ey hgl hts2
          have hfew4 : st2.2.length ≤ 20 * a + b := by rw [← HOK2.out.len]; exact hfew3
          by_cases hmem : st2.1.idxOf k < st2.1.length
          · have HI2 := Lib.hid (HI.out.trans (if_pos hmem))
            obtain ⟨p, hp⟩ : ∃ p, st2.1.idxOf k = p := ⟨_, rfl⟩
            rw [hp] at hmem HI2
            obtain ⟨cn, hcn, hp2, hds, hcell⟩ := dia_found HOK2.out hp hmem
            have HDS := Lib.hid hds
            have HCELL := Lib.hid hcell
            obtain ⟨g10, cap10, e10⟩ := HDI2.out.ts.ne_nil hp2
            subst e10
            have hcn2 : cn ≤ 1000 := by omega
            clear hcn hmem hp hds hcell
            go_upto_region 21 with (go_at_call 55; refine (IX.out _ ((Below.refl _ _).alloc (Nat.le_refl _) _) ?hc).mono ?_; (case hc => simp); rintro e wi ⟨rfl, hbi⟩; rw [HI2.out])
            have hbI := ((Below.refl wr.heap.size wr).alloc (Nat.le_refl _) (.cells #[.slice ay ly cy] 24)).trans (hbi.mono (by simp))
            have HDi := Lib.hid (HDI2.out.below hbI)
            have HBW2 := Lib.hid (HBX.out.trans (hbI.mono HBX.out.size))
            have HSI := Lib.hid (HSM.out.trans (Sm.of_below hbI))
            have hcp := HCELL.out _ _ _ _ _ _ HDi.out.ts
            have hfp := HDi.out.ts.frozenN p
            have hpi : (p : Int) < (st2.2.length : Int) := by omega
            have HDB := Lib.hid (HDi.out.bump (j := p) (x := cn + 1))
            have HBB := Lib.hid (HBW2.out.setCell (p := ⟨g10, p, none⟩) (HDi.out.ts.lt g10 rfl).1 (.int .i64 ((cn : Int) + 1)))
            have HSB := Lib.hid (HSI.out.trans (sm_cell g10 p (.int .i64 ((cn : Int) + 1)) (fun q hq e => (HDi.out.sep q hq).2.2 (by rw [e]; rfl))))
            have d0 : decide ((p : Int) < 0) = false := by simp
            have d1 : ¬ (p : Int) < 0 := by omega
            clear hbI hbi
            go_wp2
            go_roundw
            case rel => exact ⟨b + 1, by omega, by go_num, by rw [HTS2.out, HDS.out]; exact HDB.out, HBB.out, HSB.out, by rw [HTS2.out]; exact HOKS.out⟩
            case measure => simp [intOf]; omega
          · have HI2 := Lib.hid (HI.out.trans (if_neg hmem))
            have HDS := Lib.hid (show diaS st2 k = (st2.1 ++ [k], st2.2 ++ [1]) by unfold diaS; rw [if_neg hmem])
            clear hmem
            go_upto_region 21 with (go_at_call 55; refine (IX.out _ ((Below.refl _ _).alloc (Nat.le_refl _) _) ?hc).mono ?_; (case hc => simp); rintro e wi ⟨rfl, hbi⟩; rw [HI2.out])
            have hci := ((Held.new wr 24 [.slice ay ly cy]).below hbi (by simp)).at (i := 0) rfl
            have hbI := ((Below.refl wr.heap.size wr).alloc (Nat.le_refl _) (.cells #[.slice ay ly cy] 24)).trans (hbi.mono (by simp))
            have HDi := Lib.hid (HDI2.out.below hbI)
            have HBW2 := Lib.hid (HBX.out.trans (hbI.mono HBX.out.size))
            have HSI := Lib.hid (HSM.out.trans (Sm.of_below hbI))
            have HFI := Lib.hid (HFY.out.kept (Sm.of_below hbI))
            have hsz := HBW2.out.size
            clear hbI hbi
            go_wp2_with (first
              | (at_builtin; refine wpList_appF rfl _ _ rfl S2 w6.heap.size wi.heap.size u9 (.slice ay ly cy) (st2.1.map fun u => (wordsG K n).getD u []) ((wordsG K n).getD k []) rfl (HDi.out.rows.alloc _) (HFI.out.kept (Sm.of_below ((Below.refl _ _).alloc (Nat.le_refl _) _))) rfl (Held.new _ _ [_]) (fun q hq => (HDi.out.sep q hq).2.1) (by rw [List.length_map]; omega) (by simp; omega) ?_; intro v4 w4 hr4 hg4 ho4; have HDA := Lib.hid (dia_app (HDi.out.below ((Below.refl _ _).alloc (Nat.le_refl _) (.cells #[.slice ay ly cy] 24))) hr4 hg4 ho4); have HBA := Lib.hid ((HBW2.out.alloc hsz (.cells #[.slice ay ly cy] 24)).grown hg4 (by simp; omega) (fun q hq => (HDi.out.rows.own q hq).1)); have HSA := Lib.hid ((HSI.out.trans (Sm.of_below ((Below.refl _ _).alloc (Nat.le_refl _) (.cells #[.slice ay ly cy] 24)))).trans (Sm.of_grown hg4 (fun q hq e => (HDi.out.sep q hq).2.1 e.symm))); have hsz4 := HBA.out.size; clear hr4 hg4 ho4)
              | (at_builtin; refine wpList_app1_at rfl _ _ rfl w6.heap.size u10 (toI st2.2) ((1 : Nat) : Int) rfl (HDA.out.ts.alloc _) ⟨_, 0, none⟩ 1 rfl (cell_new1 _ _ _) (by rw [toI_length]; omega) (by simp; omega) ?_; intro v5 w5 ho5 hg5 hl5; have HD5 := Lib.hid (dia_app2 (HDA.out.below ((Below.refl _ _).alloc (Nat.le_refl _) (.cells #[.int .i64 1] 3))) ho5 hg5 hl5); have HB5 := Lib.hid ((HBA.out.alloc hsz4 (.cells #[.int .i64 1] 3)).grown hg5 (by simp; omega) (fun q hq => (HDA.out.ts.lt q hq).1)); have HS5 := Lib.hid ((HSA.out.trans (Sm.of_below ((Below.refl _ _).alloc (Nat.le_refl _) (.cells #[.int .i64 1] 3)))).trans (Sm.of_grown hg5 (fun q hq e => (HDA.out.sep q hq).2.2 e.symm))); clear ho5 hg5 hl5))
            go_roundw
            case rel => exact ⟨b + 1, by omega, by go_num, by rw [HTS2.out, HDS.out]; exact HD5.out, HB5.out, HS5.out, by rw [HTS2.out]; exact HOKS.out⟩
            case measure => simp [intOf]; omega
        · obtain rfl : b = js2.length := by omega
          have hbi0 : ¬ ((js2.length : Nat) : Int) < (js2.length : Int) := by omega
          rw [List.take_length] at hD hok
          have HDE := Lib.hid hD
          have HOE := Lib.hid (hok.mono (show 20 * a + js2.length ≤ 20 * (a + 1) by omega))
          have HBE := Lib.hid hb
          clear hD hok hb hsm
          go_wp2
          go_roundw
          case rel => exact ⟨a + 1, by omega, by go_num, ⟨S2, by rw [HTS.out]; exact HDE.out⟩, HBE.out, by rw [HTS.out]; exact HOE.out⟩
          case measure => simp [intOf]; omega
    · obtain rfl : a = js.length := by omega
      have hai : ¬ ((js.length : Nat) : Int) < (js.length : Int) := by omega
      rw [List.take_length] at hD
      obtain ⟨a10, c10, e10, hall⟩ := own_twos hD.ts HTWO.out
      subst e10
      obtain ⟨T, hT⟩ : ∃ T, (js.foldl (diaJ (oCT K n)) ([], [])).2 = T := ⟨_, rfl⟩
      rw [hT] at hall
      rw [hT]
      have HALL := Lib.hid hall
      have HTL := Lib.hid (show T.length ≤ 1000 by rw [← hT]; rw [List.take_length] at hok; rw [← hok.len]; have := hok.few; omega)
      have HBE := Lib.hid (chainS HB6.out hb)
      have htl := HTL.out
      clear hD hok hb hall hT hwr
      go_wp2
      go_loop [106] (fun ix => ∃ i : Nat, i ≤ T.length ∧ ix = .int .i64 i) (fun ix => T.length - (intOf ix).toNat)
      case atStart => exact ⟨0, Nat.zero_le _, rfl⟩
      case round =>
        obtain ⟨i, hi, rfl⟩ := hrel
        by_cases hlt3 : i < T.length
        · obtain ⟨b, off, rfl, hcx⟩ := HALL.out i hlt3
          have hii : (i : Int) < (T.length : Int) := by omega
          go_wp2
          go_round
          case rel => exact ⟨i + 1, by omega, by go_num⟩
          case measure => simp [intOf]; omega
        · obtain rfl : i = T.length := by omega
          have hii : ¬ ((T.length : Nat) : Int) < (T.length : Int) := by omega
          go_wp2_with (go_at_call 20; refine (AW.out _).mono ?_; rintro e w7 ⟨rfl, hb7⟩)
          go_ret
          exact ⟨rfl, chainE (chainS HBE.out hb7)⟩
theorem mirrorDiamonds_true (K : Nat) (n : Int) (vu : Value) (xs : List Int) (w : World) (hK : K < 256) (hx : Ints w vu xs) :
    Calls Try.prog 13 #[grpI K n, vu] w (TrueM w) := by
  cases hok : okI K n [xs] with
  | false => exact DiaL_no K n vu xs w hK hx hok
  | true =>
    obtain ⟨m, rfl, hv, hall⟩ := okI_nat hok
    simp only [List.all_cons, List.all_nil, Bool.and_true] at hall
    unfold grpI
    by_cases hz : (oCT K m).getD (ix K m xs) [] = []
    · exact DiaL_zero K m vu xs w hv hx hall hz
    · exact DiaL_pos K m vu xs w hv hx hall hz
end Go.Proofs.Ytmlhecfhhhebnaa
