/- Ua, Ub, Ud, Uc of the seat's texts, in this order. -/
import Derived.Test.YtmlhecfhhhebnaaN2
import Derived.Test.YtmlhecfhhhebnaaVb

/- MirrorDiamonds, plain: what lies below what, and what the law counts. No Go in sight. -/
namespace Go.Proofs.Ytmlhecfhhhebnaa

def oC65x1 : List (List Nat) := [[], [0]]
def oC65x2 : List (List Nat) := [[], [0], [0], [1, 2], [1, 2], [3, 4]]
def oC65x3 : List (List Nat) := [[], [0], [0], [0], [1, 2], [1, 3], [1, 2], [2, 3], [2, 3], [4, 6], [4, 5, 7], [4, 5, 8], [5, 6, 7], [7, 8], [5, 6, 8], [9, 10, 12], [10, 11, 13], [9, 11, 14], [9, 11, 12, 13], [12, 13, 14], [15, 16, 18], [15, 16, 17, 19], [17, 18, 19], [20, 21, 22]]
def oC65x4 : List (List Nat) := [[], [0], [0], [0], [0], [1, 2], [1, 3], [1, 4], [1, 2], [2, 3], [2, 4], [2, 3], [3, 4], [3, 4], [5, 8], [5, 6, 9], [5, 7, 10], [5, 6, 11], [6, 7, 12], [6, 7, 13], [6, 8, 9], [7, 8, 10], [9, 11], [9, 10, 12], [9, 10, 13], [6, 8, 11], [10, 11, 12], [12, 13], [10, 11, 13], [14, 15, 20], [14, 16, 21], [15, 17, 22], [15, 16, 18, 23], [15, 16, 19, 24], [14, 17, 25], [16, 17, 18, 26], [18, 19, 27], [16, 17, 19, 28], [14, 17, 20, 22], [18, 20, 21, 23], [19, 20, 21, 24], [20, 22, 25], [22, 23, 26], [23, 24, 27], [22, 24, 28], [18, 21, 25, 26], [22, 24, 26, 27], [26, 27, 28], [19, 21, 25, 28], [29, 31, 38], [29, 30, 32, 39], [29, 30, 33, 40], [29, 31, 34, 41], [31, 32, 35, 42], [32, 33, 36, 43], [31, 33, 37, 44], [30, 34, 35, 45], [31, 33, 35, 36, 46], [35, 36, 37, 47], [30, 34, 37, 48], [34, 38, 41], [30, 35, 38, 39, 42], [36, 39, 40, 43], [30, 37, 38, 40, 44], [39, 41, 42, 45], [42, 43, 46], [42, 43, 44, 47], [40, 41, 44, 48], [36, 40, 41, 45, 46], [44, 46, 47], [36, 45, 47, 48], [49, 52, 60], [49, 50, 53, 61], [50, 51, 54, 62], [49, 51, 55, 63], [50, 52, 53, 56, 64], [53, 54, 57, 65], [53, 54, 55, 58, 66], [51, 52, 55, 59, 67], [51, 52, 56, 57, 68], [55, 57, 58, 69], [56, 58, 59, 70], [56, 60, 61, 64], [49, 51, 57, 61, 62, 65], [58, 61, 62, 63, 66], [59, 60, 63, 67], [62, 64, 65, 68], [65, 66, 69], [62, 64, 66, 67, 70], [56, 58, 60, 63, 68, 69], [67, 68, 69, 70], [71, 72, 75, 82], [72, 73, 76, 83], [72, 73, 74, 77, 84], [71, 74, 78, 85], [73, 75, 76, 79, 86], [76, 77, 80, 87], [73, 75, 77, 78, 81, 88], [71, 74, 79, 80, 89], [78, 79, 80, 81, 90], [71, 79, 82, 83, 86], [74, 80, 83, 84, 87], [81, 82, 84, 85, 88], [82, 84, 86, 87, 89], [86, 87, 88, 90], [81, 85, 89, 90], [91, 92, 95, 100], [92, 93, 96, 101], [91, 93, 94, 97, 102], [91, 93, 95, 96, 98, 103], [95, 96, 97, 99, 104], [94, 98, 99, 105], [98, 100, 101, 103], [94, 99, 100, 101, 102, 104], [102, 103, 104, 105], [106, 107, 109, 112], [106, 107, 108, 110, 113], [108, 109, 110, 111, 114], [111, 112, 113, 114], [115, 116, 117, 118]]
def oC66x2 : List (List Nat) := [[], [0], [0], [1, 2], [1, 2], [3, 4], [3, 4], [5, 6]]
def oC66x3 : List (List Nat) := [[], [0], [0], [0], [1, 2], [1, 3], [1, 2], [2, 3], [2, 3], [4, 6], [4, 5, 7], [4, 5, 8], [5, 6, 7], [7, 8], [5, 6, 8], [7, 8], [9, 10, 12], [10, 11, 13], [9, 11, 14], [10, 11, 15], [9, 11, 12, 13], [12, 13, 14], [13, 15], [12, 14, 15], [16, 17, 20], [16, 17, 18, 21], [17, 19, 22], [16, 18, 19, 23], [18, 20, 21], [16, 19, 20, 22], [21, 22, 23], [18, 20, 22, 23], [24, 25, 28], [24, 26, 29], [25, 26, 27, 30], [24, 26, 27, 31], [27, 28, 29, 30], [28, 30, 31], [27, 29, 31], [32, 33, 34, 36], [32, 34, 35, 37], [33, 35, 38], [33, 35, 36, 37], [36, 37, 38], [39, 40, 42], [39, 40, 41, 43], [41, 42, 43], [44, 45, 46]]
def oC73x2 : List (List Nat) := [[], [0], [0], [1, 2]]
def oC73x3 : List (List Nat) := [[], [0], [0], [1, 2], [1, 2], [3, 4]]
def oC73x4 : List (List Nat) := [[], [0], [0], [1, 2], [1, 2], [3, 4], [3, 4], [5, 6]]
def oC73x5 : List (List Nat) := [[], [0], [0], [1, 2], [1, 2], [3, 4], [3, 4], [5, 6], [5, 6], [7, 8]]
def oC73x6 : List (List Nat) := [[], [0], [0], [1, 2], [1, 2], [3, 4], [3, 4], [5, 6], [5, 6], [7, 8], [7, 8], [9, 10]]
def oC73x7 : List (List Nat) := [[], [0], [0], [1, 2], [1, 2], [3, 4], [3, 4], [5, 6], [5, 6], [7, 8], [7, 8], [9, 10], [9, 10], [11, 12]]
def oC73x8 : List (List Nat) := [[], [0], [0], [1, 2], [1, 2], [3, 4], [3, 4], [5, 6], [5, 6], [7, 8], [7, 8], [9, 10], [9, 10], [11, 12], [11, 12], [13, 14]]
def oC73x9 : List (List Nat) := [[], [0], [0], [1, 2], [1, 2], [3, 4], [3, 4], [5, 6], [5, 6], [7, 8], [7, 8], [9, 10], [9, 10], [11, 12], [11, 12], [13, 14], [13, 14], [15, 16]]
def oC73x10 : List (List Nat) := [[], [0], [0], [1, 2], [1, 2], [3, 4], [3, 4], [5, 6], [5, 6], [7, 8], [7, 8], [9, 10], [9, 10], [11, 12], [11, 12], [13, 14], [13, 14], [15, 16], [15, 16], [17, 18]]
def oC73x11 : List (List Nat) := [[], [0], [0], [1, 2], [1, 2], [3, 4], [3, 4], [5, 6], [5, 6], [7, 8], [7, 8], [9, 10], [9, 10], [11, 12], [11, 12], [13, 14], [13, 14], [15, 16], [15, 16], [17, 18], [17, 18], [19, 20]]
def oC73x12 : List (List Nat) := [[], [0], [0], [1, 2], [1, 2], [3, 4], [3, 4], [5, 6], [5, 6], [7, 8], [7, 8], [9, 10], [9, 10], [11, 12], [11, 12], [13, 14], [13, 14], [15, 16], [15, 16], [17, 18], [17, 18], [19, 20], [19, 20], [21, 22]]
def oCT (K n : Nat) : List (List Nat) :=
  if K = 65 ∧ n = 1 then oC65x1 else if K = 65 ∧ n = 2 then oC65x2 else if K = 65 ∧ n = 3 then oC65x3 else if K = 65 ∧ n = 4 then oC65x4 else if K = 66 ∧ n = 2 then oC66x2 else if K = 66 ∧ n = 3 then oC66x3 else if K = 73 ∧ n = 2 then oC73x2 else if K = 73 ∧ n = 3 then oC73x3 else if K = 73 ∧ n = 4 then oC73x4 else if K = 73 ∧ n = 5 then oC73x5 else if K = 73 ∧ n = 6 then oC73x6 else if K = 73 ∧ n = 7 then oC73x7 else if K = 73 ∧ n = 8 then oC73x8 else if K = 73 ∧ n = 9 then oC73x9 else if K = 73 ∧ n = 10 then oC73x10 else if K = 73 ∧ n = 11 then oC73x11 else if K = 73 ∧ n = 12 then oC73x12 else []
/-- The covers by the table of the order. -/
def covR (W : List (List Nat)) (R : List Nat) (i : Nat) : List Nat := (List.range W.length).filter fun u => decide (lenX W u + 1 = lenX W i) && Nat.testBit (gN R i) u
def ckC (W : List (List Nat)) (R : List Nat) (C : List (List Nat)) : Bool := (List.range W.length).all fun i => covR W R i == C.getD i []
theorem ckC_all : (allGroups.all fun g => ckC (litW g.1 g.2) (oRT g.1 g.2) (oCT g.1 g.2)) = true := by decide +kernel
theorem cov_T {K n : Nat} (hv : validB K n = true) {i : Nat} (hi : i < (wordsG K n).length) : covL (wordsG K n) (nextG K n) i = (oCT K n).getD i [] := by
  have hkR : ckR (wordsG K n) (nextG K n) (oRT K n) = true := by
    rw [(lit_of hv).1, (lit_of hv).2]; exact List.all_eq_true.1 ckR_all _ (valid_in hv)
  have hC : ckC (wordsG K n) (oRT K n) (oCT K n) = true := by
    rw [(lit_of hv).1]; exact List.all_eq_true.1 ckC_all _ (valid_in hv)
  have h := List.all_eq_true.1 hC i (List.mem_range.2 hi)
  rw [← eq_of_beq h]
  unfold covL covR
  apply List.filter_congr
  intro u hu
  unfold covB
  rw [belG_R (tkG hv) (lstG hv) hkR (List.mem_range.1 hu) hi]
/-- What the law keeps: the elements met, and how often. -/
def diaS (st : List Nat × List Nat) (k : Nat) : List Nat × List Nat :=
  if st.1.idxOf k < st.1.length then (st.1, st.2.modify (st.1.idxOf k) (fun c => c + 1)) else (st.1 ++ [k], st.2 ++ [1])
def diaJ (C : List (List Nat)) (st : List Nat × List Nat) (j : Nat) : List Nat × List Nat := (C.getD j []).foldl diaS st
def diaI (C : List (List Nat)) (i : Nat) : List Nat × List Nat := (C.getD i []).foldl (diaJ C) ([], [])
def ckD (W C : List (List Nat)) : Bool := (List.range W.length).all fun i => (diaI C i).2.all (fun c => c == 2) && ((C.getD i []).length == 0) == (lenX W i == 0) && decide ((C.getD i []).length ≤ 20)
theorem ckD_all : (allGroups.all fun g => ckD (litW g.1 g.2) (oCT g.1 g.2)) = true := by decide +kernel
structure DiaAt (W C : List (List Nat)) (i : Nat) : Prop where
  two : ∀ c ∈ (diaI C i).2, c = 2
  none : ((C.getD i []).length == 0) = (lenX W i == 0)
  few : (C.getD i []).length ≤ 20
theorem dia_at {K n : Nat} (hv : validB K n = true) {i : Nat} (hi : i < (wordsG K n).length) : DiaAt (wordsG K n) (oCT K n) i := by
  have hD : ckD (wordsG K n) (oCT K n) = true := by
    rw [(lit_of hv).1]; exact List.all_eq_true.1 ckD_all _ (valid_in hv)
  have h := List.all_eq_true.1 hD i (List.mem_range.2 hi)
  simp only [Bool.and_eq_true, List.all_eq_true, beq_iff_eq, decide_eq_true_eq] at h
  obtain ⟨⟨h1, h2⟩, h3⟩ := h
  exact ⟨h1, h2, h3⟩
theorem diaS_len (st : List Nat × List Nat) (k : Nat) (h : st.1.length = st.2.length) : (diaS st k).1.length = (diaS st k).2.length := by
  unfold diaS
  split
  · simpa using h
  · simp [h]
/-- Entries are few: at most one more a step. -/
theorem diaS_le (st : List Nat × List Nat) (k B : Nat) (h : ∀ c ∈ st.2, c ≤ B) (h1 : 1 ≤ B + 1) : ∀ c ∈ (diaS st k).2, c ≤ B + 1 := by
  unfold diaS
  split
  · exact modify_le st.2 _ h
  · intro c hc
    rcases List.mem_append.1 hc with hc | hc
    · have := h c hc; omega
    · have : c = 1 := by simpa using hc
      omega
end Go.Proofs.Ytmlhecfhhhebnaa

/- MirrorDiamonds' closure, slices.IndexFunc over rows: the walks. -/
namespace Go.Proofs.Ytmlhecfhhhebnaa
open Go.RowKit
attribute [local go_sem] Oper.semAt_some

set_option maxRecDepth 20000 in
set_option maxHeartbeats 1000000 in
theorem diaF_any (B : Nat) (v u : Value) (xs ys : List Int) (w : World) (hv : Ints w v xs) (hu : Ints w u ys) (hc : w.cell? ⟨B, 0, none⟩ = some u) :
    Calls Try.prog 56 #[v, .pointer (some ⟨B, 0, none⟩)] w fun e w' => e = .returned (.bool (decide (xs = ys))) ∧ Below w.heap.size w w' := by
  have C := Lib.hid (Equal_any v u xs ys w hv hu)
  obtain ⟨a, c, rfl, _⟩ := hv
  obtain ⟨a2, c2, rfl, _⟩ := hu
  go_enter Try.func56, Try.ntmps56
  go_wp2_with (go_at_call 23; refine C.out.mono ?_; rintro e w2 ⟨rfl, hb2⟩)
  go_ret
  exact ⟨rfl, hb2⟩

/-- Where a word stands in a list of words, or -1. -/
def idxI (ls : List (List Nat)) (y : List Nat) : Int := if ls.idxOf y < ls.length then ((ls.idxOf y : Nat) : Int) else -1
theorem idxI_hit {ls : List (List Nat)} {y : List Nat} {k : Nat} (hk : k < ls.length) (h : ls[k] = y) (hn : ∀ j (hj : j < k), ls[j]'(by omega) ≠ y) : idxI ls y = (k : Int) := by
  have e : ls.idxOf y = k := by
    have hm : y ∈ ls := by rw [← h]; exact List.getElem_mem hk
    have hlt : ls.idxOf y < ls.length := List.idxOf_lt_length_iff.2 hm
    have hg : ls[ls.idxOf y] = y := List.getElem_idxOf hlt
    rcases Nat.lt_trichotomy (ls.idxOf y) k with h1 | h1 | h1
    · exact absurd hg (hn _ h1)
    · exact h1
    · exfalso
      have := List.not_of_lt_findIdx (p := fun x => x == y) (xs := ls) (i := k) h1
      rw [h] at this
      simp at this
  unfold idxI
  rw [e, if_pos hk]
theorem idxI_miss {ls : List (List Nat)} {y : List Nat} (hn : ∀ j (hj : j < ls.length), ls[j] ≠ y) : idxI ls y = -1 := by
  have hm : y ∉ ls := fun h => by
    obtain ⟨j, hj, e⟩ := List.getElem_of_mem h
    exact hn j hj e
  unfold idxI
  rw [if_neg (fun h => hm (List.idxOf_lt_length_iff.1 h))]

set_option maxRecDepth 20000 in
set_option maxHeartbeats 2000000 in
theorem IndexR_any {S : Nat → Prop} {Bv B : Nat} (v u : Value) (ls : List (List Nat)) (y : List Nat) (w : World) (hv : RowsF S Bv w v ls) (hu : Ints w u (toI y)) (hc : w.cell? ⟨B, 0, none⟩ = some u) (hl : ls.length ≤ 1000000) :
    Calls Try.prog 55 #[v, .func (.func 56) #[] #[.pointer (some ⟨B, 0, none⟩)]] w fun e w' => e = .returned (.int .i64 (idxI ls y)) ∧ Below w.heap.size w w' := by
  have H1 := Lib.hid (fun (w' : World) (hb : Below w.heap.size w w') => hv.below hb)
  have HU := Lib.hid (fun (w' : World) (hb : Below w.heap.size w w') => hu.below hb)
  have hBl := World.block_lt_of_cell? _ _ hc
  have HC := Lib.hid (fun (w' : World) (hb : Below w.heap.size w w') => (hb.cell (p := ⟨B, 0, none⟩) hBl).trans hc)
  obtain ⟨a, c, rfl⟩ := hv.form
  clear hv hu hc hBl
  go_enter Try.func55, Try.ntmps55
  go_wp2
  go_loopw [8] (fun i wr => ∃ k : Nat, k ≤ ls.length ∧ i = .int .i64 k ∧ Hid (∀ j (hj : j < ls.length), j < k → ls[j] ≠ y) ∧ Below w.heap.size w wr) (fun i _ => ls.length - (intOf i).toNat)
  case atStart => exact ⟨0, Nat.zero_le _, rfl, Lib.hid (fun j _ h => absurd h (Nat.not_lt_zero _)), Below.refl _ _⟩
  case round =>
    obtain ⟨k, hk, rfl, HN, hb⟩ := hrel
    by_cases hlt : k < ls.length
    · have hki : (k : Int) < (ls.length : Int) := by omega
      obtain ⟨g, cap, uk, e1, _, _, hc1, hf1⟩ := (H1.out wr hb).at k hlt
      obtain ⟨rfl, hxx, rfl⟩ := Value.slice.inj e1
      clear hxx e1
      have C := Lib.hid (by have := diaF_any B uk u _ _ wr hf1.ints (HU.out wr hb) (HC.out wr hb); rw [dec_toI] at this; exact this)
      have HB := Lib.hid hb
      obtain ⟨ua, uc, uf, _⟩ := hf1.slice
      subst uf
      clear hf1 hb
      by_cases hxy : ls[k] = y
      · have HD := Lib.hid (show decide (ls[k] = y) = true by simpa using hxy)
        have HE := Lib.hid (idxI_hit hlt hxy (fun j hj => HN.out j (by omega) hj))
        clear hxy
        go_wp2_with (go_at_call 56; refine C.out.mono ?_; rintro e w2 ⟨rfl, hb2⟩; rw [HD.out])
        go_ret
        exact ⟨ret_int HE.out.symm, HB.out.trans (hb2.mono HB.out.size)⟩
      · have HD := Lib.hid (show decide (ls[k] = y) = false by simpa using hxy)
        have HN2 := Lib.hid (show ∀ j (hj : j < ls.length), j < k + 1 → ls[j] ≠ y from fun j hj h => by
          by_cases e : j = k
          · subst e; exact hxy
          · exact HN.out j hj (by omega))
        clear hxy
        go_wp2_with (go_at_call 56; refine C.out.mono ?_; rintro e w2 ⟨rfl, hb2⟩; rw [HD.out])
        go_roundw
        case rel => exact ⟨k + 1, by omega, by go_num, HN2, HB.out.trans (hb2.mono HB.out.size)⟩
        case measure => simp [intOf]; omega
    · have hki : ¬ (k : Int) < (ls.length : Int) := by omega
      have HE := Lib.hid (idxI_miss (ls := ls) (y := y) fun j hj => HN.out j hj (by omega))
      have HB := Lib.hid hb
      clear hb
      go_wp2
      go_ret
      exact ⟨ret_int HE.out.symm, HB.out⟩
end Go.Proofs.Ytmlhecfhhhebnaa

/- MirrorDiamonds: the two slices that grow, kept apart. -/
namespace Go.Proofs.Ytmlhecfhhhebnaa
open Go.RowKit

/-- The words met (numbers ms) in v, how often in t; S: the words' blocks. -/
structure DiaI (W : List (List Nat)) (H : Nat) (w : World) (v t : Value) (st : List Nat × List Nat) (S : Nat → Prop) : Prop where
  rows : RowsF S H w v (st.1.map fun u => W.getD u [])
  ts : OwnI 3 H w t (toI st.2)
  sep : ∀ k, S k → k < w.heap.size ∧ v.ownBlock ≠ some k ∧ t.ownBlock ≠ some k
section
variable {W : List (List Nat)} {H : Nat} {w w' : World} {v t : Value} {st : List Nat × List Nat} {S : Nat → Prop}
theorem DiaI.nil (W : List (List Nat)) (H : Nat) (w : World) : DiaI W H w (.slice none 0 0) (.slice none 0 0) ([], []) (fun _ => False) := ⟨RowsF.nil _ _ _, OwnI.nil _ _ _, fun _ h => h.elim⟩
theorem DiaI.below (h : DiaI W H w v t st S) (hb : Below w.heap.size w w') : DiaI W H w' v t st S :=
  ⟨h.rows.below hb, h.ts.below hb, fun k hk => ⟨Nat.lt_of_lt_of_le (h.sep k hk).1 hb.size, (h.sep k hk).2⟩⟩
/-- What a call has made lies in S, too. -/
theorem DiaI.more (h : DiaI W H w v t st S) (hb : Below w.heap.size w w') : DiaI W H w' v t st (fun k => S k ∨ (w.heap.size ≤ k ∧ k < w'.heap.size)) := by
  refine ⟨(h.rows.below hb).mono fun k hk => .inl hk, h.ts.below hb, fun k hk => ?_⟩
  rcases hk with hk | hk
  · exact ⟨Nat.lt_of_lt_of_le (h.sep k hk).1 hb.size, (h.sep k hk).2⟩
  · refine ⟨hk.2, fun e => ?_, fun e => ?_⟩
    · have := h.rows.own k e; omega
    · have := h.ts.lt k e; omega
theorem DiaI.apart (h : DiaI W H w v t st S) {k : Nat} (hv : v.ownBlock = some k) : t.ownBlock ≠ some k := fun ht => by
  have h1 := h.rows.ty hv
  have h2 := own_ty h.ts ht
  rw [h1] at h2
  exact absurd h2 (by decide)
/-- The appended word. -/
theorem DiaI.app {w4 : World} {v4 : Value} {k : Nat} (h : DiaI W H w v t st S) (hr : RowsF S H w4 v4 (st.1.map (fun u => W.getD u []) ++ [W.getD k []])) (hg : w.grownBy w4 v.ownBlock) (ho : v4.ownBlock = v.ownBlock ∨ v4.ownBlock = some w.heap.size) :
    RowsF S H w4 v4 ((st.1 ++ [k]).map fun u => W.getD u []) ∧ OwnI 3 H w4 t (toI st.2) ∧ (∀ k, S k → k < w4.heap.size ∧ v4.ownBlock ≠ some k ∧ t.ownBlock ≠ some k) := by
  refine ⟨by rw [List.map_append]; exact hr, World.ownsRow.kept h.ts hg ?_, fun j hj => ⟨?_, ?_, (h.sep j hj).2.2⟩⟩
  · cases ht : t.ownBlock with
    | none => exact .inl rfl
    | some b => exact .inr fun e => h.apart e.symm ht
  · have := (h.sep j hj).1; have := hg.size; omega
  · rcases ho with ho | ho
    · rw [ho]; exact (h.sep j hj).2.1
    · rw [ho]; intro e
      have h1 := (h.sep j hj).1
      have : w.heap.size = j := by simpa using e
      omega
/-- The appended number. -/
theorem DiaI.app2 {w4 : World} {t4 : Value} {st' : List Nat × List Nat} (h : DiaI W H w v t st S) (he : st'.1 = st.1) (hr : OwnI 3 H w4 t4 (toI st'.2)) (hg : w.grownBy w4 t.ownBlock) (ho : t4.ownBlock = t.ownBlock ∨ t4.ownBlock = some w.heap.size) : DiaI W H w4 v t4 st' S := by
  have hs : Sm S w w4 := Sm.of_grown hg fun k hk e => (h.sep k hk).2.2 e.symm
  have hs2 : Sm (fun k => some k ≠ t.ownBlock) w w4 := Sm.of_grown hg fun k hk => hk
  refine ⟨by rw [he]; exact h.rows.kept hs2 (fun k hk e => (h.sep k hk).2.2 e.symm) (fun k hk e => h.apart hk e.symm), hr, fun j hj => ⟨?_, (h.sep j hj).2.1, ?_⟩⟩
  · have := (h.sep j hj).1; have := hs.size; omega
  · rcases ho with ho | ho
    · rw [ho]; exact (h.sep j hj).2.2
    · rw [ho]; intro e
      have h1 := (h.sep j hj).1
      have : w.heap.size = j := by simpa using e
      omega
/-- One more of a number. -/
theorem DiaI.bump {g n cap j x : Nat} (h : DiaI W H w v (.slice (some ⟨g, 0, none⟩) n cap) st S) : DiaI W H (w.setCell ⟨g, j, none⟩ (.int .i64 (x : Int))) v (.slice (some ⟨g, 0, none⟩) n cap) (st.1, st.2.set j x) S := by
  have hs : Sm (fun k => k ≠ g) w (w.setCell ⟨g, j, none⟩ (.int .i64 (x : Int))) := ⟨rfl, rfl, rfl, by simp [World.setCell], fun k hk _ => Below.heap_setCell w ⟨g, j, none⟩ _ k hk⟩
  refine ⟨h.rows.kept hs (fun k hk e => (h.sep k hk).2.2 (by rw [e]; rfl)) (fun k hk e => h.apart hk (by rw [e]; rfl)), h.ts.storedN j x, fun k hk => ⟨?_, (h.sep k hk).2⟩⟩
  have := (h.sep k hk).1; have := hs.size; omega
end
theorem idx_words {K n : Nat} (hv : validB K n = true) {ms : List Nat} {k : Nat} (hm : ∀ u ∈ ms, u < (wordsG K n).length) (hk : k < (wordsG K n).length) :
    idxI (ms.map fun u => (wordsG K n).getD u []) ((wordsG K n).getD k []) = if ms.idxOf k < ms.length then ((ms.idxOf k : Nat) : Int) else -1 := by
  have inj : ∀ u, u < (wordsG K n).length → (wordsG K n).getD u [] = (wordsG K n).getD k [] → u = k := fun u hu e => by
    have h1 := walk_at hv hu
    rw [e, walk_at hv hk] at h1
    exact h1.symm
  by_cases h : ms.idxOf k < ms.length
  · rw [if_pos h]
    have hg : ms[ms.idxOf k] = k := List.getElem_idxOf h
    refine idxI_hit (by simpa using h) (by simp only [List.getElem_map, hg]) fun j hj => ?_
    simp only [List.getElem_map]
    intro e
    have hjl : j < ms.length := by omega
    have e2 := inj _ (hm _ (List.getElem_mem hjl)) e
    have := List.not_of_lt_findIdx (p := fun x => x == k) (xs := ms) (i := j) hj
    rw [e2] at this
    simp at this
  · rw [if_neg h]
    refine idxI_miss fun j hj => ?_
    have hjl : j < ms.length := by simpa using hj
    simp only [List.getElem_map]
    intro e
    have e2 := inj _ (hm _ (List.getElem_mem hjl)) e
    exact h (List.idxOf_lt_length_iff.2 (by rw [← e2]; exact List.getElem_mem hjl))
end Go.Proofs.Ytmlhecfhhhebnaa

/- list, Covers of the program, and where their rows lie: the walks. -/
namespace Go.Proofs.Ytmlhecfhhhebnaa
open Go.RowKit Go.Shelf Go.Lib Go.Sort
attribute [local go_sem] Oper.semAt_some

def RowsOutB (ls : List (List Nat)) (w : World) (e : Ending) (w' : World) : Prop := ∃ v', e = .returned (.tuple #[v', .int .i64 0]) ∧ RowsF (fun k => w.heap.size ≤ k) w.heap.size w' v' ls ∧ Below w.heap.size w w'

set_option maxRecDepth 20000 in
set_option maxHeartbeats 1000000 in
theorem tlistB_any {K n m N : Nat} {W X : List (List Nat)} (bT : Nat) (v : Value) (us : List Nat) (w : World) (ht : TabIs K n W X w bT) (hk : Tk m N W X) (hv : Ints w v (toI us)) (hus : ∀ u ∈ us, u < N) (hlen : us.length ≤ 200) :
    Calls Try.prog 82 #[.pointer (some ⟨bT, 0, none⟩), v] w fun e w' => ∃ v', e = .returned v' ∧ RowsF (fun k => w.heap.size ≤ k) w.heap.size w' v' (us.map fun u => W.getD u []) ∧ Below w.heap.size w w' := by
  have WD := Lib.hid (fun (u : Nat) (w' : World) (hb : Below w.heap.size w w') (hu : u < N) => word_any bT u w' (ht.below hb) hk hu)
  have HSH := Lib.hid (fun u (hu : u < N) => wd_short hk hu)
  obtain ⟨a, c, rfl, hlen', hcl, hc⟩ := hv.openN
  have HC := Lib.hid hc
  have HUS := Lib.hid hus
  clear ht hk hc hus hv
  go_enter Try.func82, Try.ntmps82
  go_wp2
  go_loopw [5, 10] (fun o ix wr => ∃ k : Nat, k ≤ us.length ∧ ix = .int .i64 k ∧ (∃ S, GrowI w.heap.size wr o ((us.take k).map fun u => W.getD u []) S ∧ Hid (∀ k, S k → w.heap.size ≤ k)) ∧ Below w.heap.size w wr) (fun _ i _ => us.length - (intOf i).toNat)
  case atStart => exact ⟨0, Nat.zero_le _, rfl, ⟨_, GrowI.nil _ _, Lib.hid fun _ h => h.elim⟩, Below.refl _ _⟩
  case round =>
    obtain ⟨k, hkl, rfl, ⟨S, hG, HSB⟩, hb⟩ := hrel
    by_cases hlt : k < us.length
    · obtain ⟨b, off, rfl, hbl, hcell⟩ := HC.out (ne_nil_of_lt hlt)
      have hki : (k : Int) < (us.length : Int) := by omega
      have hcx := (hb.cell (p := ⟨b, off + k, none⟩) hbl).trans (hcell k hlt)
      have HU := Lib.hid (HUS.out _ (List.getElem_mem hlt))
      have HMT := Lib.hid (map_take_succ' (fun u => W.getD u []) us k hlt)
      obtain ⟨u, hu⟩ : ∃ u, us[k] = u := ⟨_, rfl⟩
      rw [hu] at hcx HU HMT
      have hle := hb.size
      have HB := Lib.hid hb
      have HG := Lib.hid hG
      have hll : ((us.take k).map fun u => W.getD u []).length ≤ 200 := by rw [List.length_map, List.length_take]; omega
      clear hu hcell hb hG
      go_wp2_with (first
        | (go_at_call 60; refine (WD.out u _ HB.out HU.out).mono ?_; rintro e w2 ⟨v2, rfl, ho2, hb2⟩; obtain ⟨a2, n2, c2, rfl⟩ := own_form ho2; have HR2 := Lib.hid (HG.out.grow hb2 ho2 (HSH.out u HU.out)); have HB2 := Lib.hid (HB.out.trans (hb2.mono HB.out.size)); have HSB2 : Hid (∀ k, (S k ∨ (Value.slice a2 n2 c2).ownBlock = some k) → w.heap.size ≤ k) := Lib.hid (fun k hk => hk.elim (HSB.out k) (fun h => Nat.le_trans hle (ho2.lt k h).1)); have hle2 := HB2.out.size; clear ho2 hb2)
        | (at_builtin; refine wpList_appF rfl _ _ rfl (fun k => S k ∨ (Value.slice a2 n2 c2).ownBlock = some k) w.heap.size w2.heap.size u5 (.slice a2 n2 c2) ((us.take k).map fun u => W.getD u []) (W.getD u []) rfl (HR2.out.1.1.alloc _) (HR2.out.2.kept (Sm.of_below ((Below.refl _ _).alloc (Nat.le_refl _) _))) rfl (Held.new _ _ [_]) (fun k hk => (HR2.out.1.2 k hk).2) (by omega) (by simp; omega) ?_; intro v4 w4 hr4 hg4 ho4; have HG4 := Lib.hid (GrowI.app (b := 0) HR2.out.1 ((Below.refl _ _).alloc (Nat.le_refl _) _) hr4 hg4 ho4 rfl); have HB4 := Lib.hid ((HB2.out.alloc hle2 _).grown hg4 (by simp; omega) (fun j hj => (HR2.out.1.1.own j hj).1)); clear hr4 hg4 ho4))
      go_roundw
      case rel => exact ⟨k + 1, by omega, by go_num, ⟨_, by rw [HMT.out]; exact HG4.out, HSB2⟩, HB4.out⟩
      case measure => simp [intOf]; omega
    · obtain rfl : k = us.length := by omega
      have hki : ¬ ((us.length : Nat) : Int) < (us.length : Int) := by omega
      rw [List.take_length] at hG
      have HR := Lib.hid (hG.1.mono (S' := fun k => w.heap.size ≤ k) HSB.out)
      have HB := Lib.hid hb
      clear hG hb
      go_wp2
      go_ret
      exact ⟨_, rfl, HR.out, HB.out⟩
set_option maxRecDepth 20000 in
set_option maxHeartbeats 4000000 in
theorem CoversB_yes (K n : Nat) (v : Value) (xs : List Int) (w : World) (hv : validB K n = true) (hx : Ints w v xs) (h : wordB (mirs K n) xs = true) :
    Calls Try.prog 54 #[.agg #[.int .u8 (K : Nat), .int .i64 (n : Nat)], v] w (RowsOutB ((covL (wordsG K n) (nextG K n) (ix K n xs)).map fun u => (wordsG K n).getD u []) w) := by
  have RD := Lib.hid (fun w' v' (ha : Args w' v' [xs]) => read_yes K n v' [xs] w' hv ha (by simpa using h))
  have HX := Lib.hid (fun o : Obj => hx.below ((Below.refl _ _).alloc (Nat.le_refl _) o))
  have hil := ix_lt hv h
  have hN : (wordsG K n).length ≤ 120 := (tkG hv).small
  have NB := Lib.hid (fun (bT : Nat) (w' : World) (ht : TabIs K n (wordsG K n) (nextG K n) w' bT) => numbers_any bT w' ht (tkG hv) (pairsG hv))
  have LS := Lib.hid (fun (bT : Nat) (v : Value) (w' : World) (ht : TabIs K n (wordsG K n) (nextG K n) w' bT) (hv' : Ints w' v (toI (covL (wordsG K n) (nextG K n) (ix K n xs)))) => tlistB_any bT v (covL (wordsG K n) (nextG K n) (ix K n xs)) w' ht (tkG hv) hv' (fun u hu => List.mem_range.1 (List.mem_filter.1 hu).1) (by have := List.length_filter_le (covB (wordsG K n) (nextG K n) (ix K n xs)) (List.range (wordsG K n).length); unfold covL; rw [List.length_range] at this; omega))
  have DF := Lib.hid (fun (bT b6 b7 g1 c1 g cap : Nat) (w2 w3 : World) (ht : TabIs K n (wordsG K n) (nextG K n) w2 bT) (h6 : w2.cell? ⟨b6, 0, none⟩ = some (.pointer (some ⟨bT, 0, none⟩))) (h7 : w2.cell? ⟨b7, 0, none⟩ = some (.slice (some ⟨g1, 0, none⟩) 1 c1)) (hg : w2.cell? ⟨g1, 0, none⟩ = some (.int .i64 (ix K n xs : Nat))) (hb : Below w2.heap.size w2 w3) (ho : OwnI 3 w2.heap.size w3 (.slice (some ⟨g, 0, none⟩) (wordsG K n).length cap) (toI (List.range (wordsG K n).length))) => delete_any bT b6 b7 g1 c1 (ix K n xs) g cap w2 w3 ht (tkG hv) (lstG hv) h6 h7 hg hil hb ho)
  obtain ⟨L, hL⟩ : ∃ L, covL (wordsG K n) (nextG K n) (ix K n xs) = L := ⟨_, rfl⟩
  rw [hL] at LS DF ⊢
  obtain ⟨a, c, rfl, hx1⟩ := hx
  clear h hx1 hv hL hil
  go_enter Try.func54, Try.ntmps54
  go_upto_region 4 with (go_at_call 59; refine (RD.out _ _ (args1 (HX.out _) _ (by simp))).mono ?_; rintro e w1 ⟨bT, v1, rfl, ht1, ho1, hb1⟩; obtain ⟨g1, c1, rfl, hc1⟩ := own_one ho1)
  have hB1 := below_al2 (Nat.le_refl _) hb1
  have hA : Below w1.heap.size w1 ((w1.alloc (.cells #[.pointer (some ⟨bT, 0, none⟩)] 71)).alloc (.cells #[.slice (some ⟨g1, 0, none⟩) 1 c1] 24)) := ((Below.refl _ _).alloc (Nat.le_refl _) _).alloc (by simp) _
  have ht2 := ht1.below hA
  have c62 : ((w1.alloc (.cells #[.pointer (some ⟨bT, 0, none⟩)] 71)).alloc (.cells #[.slice (some ⟨g1, 0, none⟩) 1 c1] 24)).cell? ⟨w1.heap.size, 0, none⟩ = some (.pointer (some ⟨bT, 0, none⟩)) := by simp
  have c72 : ((w1.alloc (.cells #[.pointer (some ⟨bT, 0, none⟩)] 71)).alloc (.cells #[.slice (some ⟨g1, 0, none⟩) 1 c1] 24)).cell? ⟨w1.heap.size + 1, 0, none⟩ = some (.slice (some ⟨g1, 0, none⟩) 1 c1) := by
    have := Held.made (w := w1.alloc (.cells #[.pointer (some ⟨bT, 0, none⟩)] 71)) (l := [.slice (some ⟨g1, 0, none⟩) 1 c1]) (t := 24) (g := w1.heap.size + 1) (by simp)
    exact this.at (i := 0) rfl
  have cg2 := (hA.cell (p := ⟨g1, 0, none⟩) (World.block_lt_of_cell? _ _ hc1)).trans hc1
  have hs2 : w1.heap.size + 2 = ((w1.alloc (.cells #[.pointer (some ⟨bT, 0, none⟩)] 71)).alloc (.cells #[.slice (some ⟨g1, 0, none⟩) 1 c1] 24)).heap.size := by simp
  obtain ⟨w2, hw2⟩ : ∃ w2, (w1.alloc (.cells #[.pointer (some ⟨bT, 0, none⟩)] 71)).alloc (.cells #[.slice (some ⟨g1, 0, none⟩) 1 c1] 24) = w2 := ⟨_, rfl⟩
  rw [hw2] at hA ht2 c62 c72 cg2 hs2 ⊢
  have HB2 := Lib.hid (hB1.trans (hA.mono hB1.size))
  have HT2 := Lib.hid ht2
  have H72 := Lib.hid c72
  have HG2 := Lib.hid cg2
  have h6lt : w1.heap.size < w2.heap.size := by omega
  clear hw2 hA ht2 c72 cg2 hs2 ht1 ho1 hb1 hc1 hB1
  go_region_with (first
    | (go_at_call 82; refine (LS.out _ _ w4 (HT2.out.below hb4) hi4).mono ?_; rintro e w5 ⟨v5, rfl, hr5, hb5⟩)
    | (go_at_call 83; refine (DF.out bT w1.heap.size (w1.heap.size + 1) g1 c1 g3 c3 w2 w3 HT2.out c62 H72.out HG2.out hb3 ho3).mono ?_; rintro e w4 ⟨rfl, hi4, hb4⟩; have c64 := (hb4.cell (p := ⟨w1.heap.size, 0, none⟩) h6lt).trans c62)
    | (go_at_call 80; refine (NB.out bT _ (HT2.out.drewN 1)).mono ?_; rintro e w3 ⟨g3, c3, rfl, ho3, hb3'⟩; have hb3 : Below w2.heap.size w2 w3 := ((Below.refl _ w2).drew).trans hb3'; have c63 := (hb3.cell (p := ⟨w1.heap.size, 0, none⟩) h6lt).trans c62))
  all_goals
    go_wp2_with fail
    go_ret2
    exact ⟨_, rfl, (hr5.mono (fun k (hk : w4.heap.size ≤ k) => show w.heap.size ≤ k by have := HB2.out.size; have := hb4.size; omega)).base (by have := HB2.out.size; have := hb4.size; omega), HB2.out.trans ((hb4.trans (hb5.mono hb4.size)).mono HB2.out.size)⟩
end Go.Proofs.Ytmlhecfhhhebnaa
