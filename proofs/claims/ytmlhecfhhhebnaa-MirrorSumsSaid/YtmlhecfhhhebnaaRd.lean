/- read. -/
import Derived.Test.YtmlhecfhhhebnaaCf
namespace Go.Proofs.Ytmlhecfhhhebnaa
open Go.RowKit

def tkB (m : Nat) (W X : List (List Nat)) : Bool :=
  X.length == W.length && decide (W.length ≤ 120) && decide (0 < W.length) && X.all (fun r => r.length == m && r.all fun v => decide (v < W.length)) && W.all fun w => decide (w.length ≤ 12) && w.all fun s => decide (s < m)
theorem tk_all : (allGroups.all fun g => tkB (mirs g.1 g.2) (litW g.1 g.2) (litX g.1 g.2)) = true := by decide +kernel
theorem tk_of {m : Nat} {W X : List (List Nat)} (h : tkB m W X = true) (hm : m ≤ 4) : Tk m W.length W X := by
  unfold tkB at h
  simp only [Bool.and_eq_true, beq_iff_eq, decide_eq_true_eq, List.all_eq_true] at h
  obtain ⟨⟨⟨⟨h1, h2⟩, h3⟩, h4⟩, h5⟩ := h
  exact ⟨rfl, h1, fun r hr => (h4 r hr).1, fun r hr v hv => (h4 r hr).2 v hv, fun w hw => (h5 w hw).1, fun w hw s hs => (h5 w hw).2 s hs, h2, h3, hm⟩
theorem tkG {K n : Nat} (hv : validB K n = true) : Tk (mirs K n) (wordsG K n).length (wordsG K n) (nextG K n) := by
  obtain ⟨e1, e2⟩ := lit_of hv
  rw [e1, e2]
  exact tk_of (List.all_eq_true.1 tk_all _ (valid_in hv)) (mirs_le hv)

/-- A word of m letters. -/
def wordB (m : Nat) (xs : List Int) : Bool := decide (xs.length ≤ 30) && xs.all (letB m)
def natW (xs : List Int) : List Nat := xs.map Int.toNat
theorem natW_toI {m : Nat} : ∀ {xs : List Int}, xs.all (letB m) = true → toI (natW xs) = xs ∧ ∀ s ∈ natW xs, s < m
  | [], _ => ⟨rfl, by simp [natW]⟩
  | x :: xs, h => by
    simp only [List.all_cons, Bool.and_eq_true] at h
    obtain ⟨i1, i2⟩ := natW_toI h.2
    have hx := h.1
    unfold letB at hx
    simp only [Bool.and_eq_true, decide_eq_true_eq] at hx
    refine ⟨?_, fun s hs => ?_⟩
    · show ((x.toNat : Nat) : Int) :: toI (natW xs) = x :: xs
      rw [i1]; congr 1; omega
    · rcases List.mem_cons.1 (show s ∈ x.toNat :: natW xs from hs) with rfl | hs
      · omega
      · exact i2 s hs
/-- The slices handed in. -/
def Args (w : World) (v : Value) (xss : List (List Int)) : Prop :=
  ∃ (a : Option Addr) (c : Nat), v = .slice a xss.length c ∧ xss.length ≤ 10 ∧ xss.length ≤ c ∧
    (xss ≠ [] → ∃ b off, a = some ⟨b, off, none⟩ ∧ b < w.heap.size ∧ ∀ i (h : i < xss.length), ∃ u, w.cell? ⟨b, off + i, none⟩ = some u ∧ Ints w u xss[i])
def RdIs (K n : Nat) (xss : List (List Int)) (w : World) (e : Ending) (w' : World) : Prop :=
  (xss.all (wordB (mirs K n)) = true ∧ ∃ bT v, e = .returned (.tuple #[.pointer (some ⟨bT, 0, none⟩), v, .bool true]) ∧ TabIs K n (wordsG K n) (nextG K n) w' bT ∧ OwnI 3 w.heap.size w' v (toI (xss.map fun xs => walkX (nextG K n) 0 (natW xs))) ∧ Below w.heap.size w w') ∨
  (xss.all (wordB (mirs K n)) = false ∧ e = .returned (.tuple #[.pointer none, .slice none 0 0, .bool false]) ∧ Below w.heap.size w w')
theorem all_false_at {α : Type} {l : List α} {p : α → Bool} {k : Nat} (hk : k < l.length) (h : p l[k] = false) : l.all p = false := by
  cases hc : l.all p with
  | false => rfl
  | true => have := List.all_eq_true.1 hc _ (List.getElem_mem hk); rw [h] at this; cases this

set_option maxRecDepth 20000 in
set_option maxHeartbeats 1000000 in
theorem read_bad (K : Nat) (n : Int) (v : Value) (w : World) (hK : K < 256) (hv : validI K n = false) :
    Calls Try.prog 59 #[grpI K n, v] w fun e w' => e = .returned (.tuple #[.pointer none, .slice none 0 0, .bool false]) ∧ Below w.heap.size w w' := by
  have C := Lib.hid (fun w' => mirrors_any K n w' hK)
  have HM := Lib.hid (show msI K n = 0 by unfold msI; rw [hv]; rfl)
  unfold grpI
  go_enter Try.func59, Try.ntmps59
  go_wp2_with (go_at_call 66; refine (C.out _).mono ?_; rintro e w1 ⟨rfl, hb1⟩; rw [HM.out]; have HB1 := Lib.hid hb1; clear hb1)
  go_ret3
  exact ⟨rfl, (((Below.refl _ _).alloc (Nat.le_refl _) _).trans (HB1.out.mono (by simp))).alloc (by have := HB1.out.size; simp at this; omega) _⟩

set_option maxRecDepth 20000 in
set_option maxHeartbeats 2000000 in
theorem read_any (K n : Nat) (v : Value) (xss : List (List Int)) (w : World) (hv : validB K n = true) (ha : Args w v xss) :
    Calls Try.prog 59 #[.agg #[.int .u8 (K : Nat), .int .i64 (n : Nat)], v] w (RdIs K n xss w) := by
  have hm4 := mirs_le hv
  have HMS := Lib.hid (mirrors_nat K n hv)
  have HAL := Lib.hid (fun w' => all_any K n w' hv)
  have HTK := Lib.hid (tkG hv)
  obtain ⟨m, hm⟩ : ∃ m, mirs K n = m := ⟨_, rfl⟩
  have HMM := Lib.hid hm
  rw [hm] at hm4 HMS HTK
  have hmp : 0 < m := by rw [← hm]; unfold validB at hv; simp only [Bool.or_eq_true, Bool.and_eq_true, beq_iff_eq, decide_eq_true_eq] at hv; unfold mirs; split <;> omega
  have HAR := Lib.hid ha
  obtain ⟨a, c, rfl, hlen, hcl, hc⟩ := ha
  have HC := Lib.hid hc
  have hm0 : ((m : Int) == 0) = false := by simp; omega
  have hm0' : ¬ (m : Int) = 0 := by omega
  clear hv hm hc
  go_enter Try.func59, Try.ntmps59
  go_wp2_with (first
    | (go_at_call 66; refine (HMS.out _).mono ?_; rintro e w1 ⟨rfl, hb1⟩; have hz1 := hb1.size; simp at hz1; have HB1 := Lib.hid (show Below w.heap.size w w1 from ((Below.refl _ _).alloc (Nat.le_refl _) _).trans (hb1.mono (by simp))); have cg0 := (Held.made (w := w) (l := [.int .u8 (K : Nat), .int .i64 (n : Nat)]) (t := 28) rfl).below hb1 (by simp); have ce0 := (cg0.alloc (.cells #[.int .i64 (m : Nat)] 3)).at (i := 0) rfl; have ce1 := (cg0.alloc (.cells #[.int .i64 (m : Nat)] 3)).at (i := 1) rfl; clear hb1 cg0)
    | (go_at_call 85; refine (HAL.out _).mono ?_; rintro e w2 ⟨bT, rfl, ht, hlT, hb2⟩; have HT := Lib.hid ht; have HB2 := Lib.hid hb2; clear ht hb2))
  have hlb := HB1.out.size
  have hN2 := (Held.made (w := w1) (l := [.int .i64 (m : Nat)]) (t := 3) rfl).below HB2.out (by simp)
  have hB2 : Below w.heap.size w w2 := (HB1.out.alloc hlb _).trans (HB2.out.mono (by simp; omega))
  have HN2 := Lib.hid hN2
  have HBB := Lib.hid hB2
  have hz2 := HB2.out.size
  simp at hz2
  clear hN2 hB2
  go_loopw [9, 20] (fun o ix wr => ∃ k : Nat, k ≤ xss.length ∧ ix = .int .i64 k ∧ (xss.take k).all (wordB m) = true ∧ OwnI 3 w2.heap.size wr o (toI ((xss.take k).map fun xs => walkX (nextG K n) 0 (natW xs))) ∧ Below w2.heap.size w2 wr) (fun _ ix _ => xss.length - (intOf ix).toNat)
  case atStart => exact ⟨0, Nat.zero_le _, rfl, by simp, OwnI.nil _ _ _, Below.refl _ _⟩
  case round =>
    obtain ⟨k, hk, rfl, hall, ho, hb⟩ := hrel
    have HALL := Lib.hid hall
    have HO := Lib.hid ho
    have HB := Lib.hid hb
    have hzr := hb.size
    clear hall ho hb
    by_cases hlt : k < xss.length
    · obtain ⟨b, off, rfl, hbl, hrows⟩ := HC.out (ne_nil_of_lt hlt)
      obtain ⟨u, hcu, hu⟩ := hrows k hlt
      have hbel : Below w.heap.size w wr := HBB.out.trans (HB.out.mono HBB.out.size)
      have hcx := (hbel.cell (p := ⟨b, off + k, none⟩) hbl).trans hcu
      have hux := hu.below hbel
      have HU := Lib.hid hux
      have HMT := Lib.hid (map_take_succ (fun xs => walkX (nextG K n) 0 (natW xs)) xss k hlt)
      have HTA := Lib.hid (take_succ' xss k hlt)
      obtain ⟨xs, hxs⟩ : ∃ xs, xss[k] = xs := ⟨_, rfl⟩
      rw [hxs] at HU HMT HTA
      have HXS := Lib.hid hxs
      obtain ⟨a3, c3, e3, hl3, hlc3, -⟩ := HU.out
      subst e3
      have hki : (k : Int) < (xss.length : Int) := by omega
      have HCN := Lib.hid ((HN2.out.below HB.out HN2.out.lt).at (i := 0) rfl)
      clear hrows hcu hu hux hbel hxs
      by_cases h30 : xs.length ≤ 30
      · have d30 : decide ((30 : Int) < (xs.length : Int)) = false := by simp; omega
        have CF := Lib.hid (Contains_any _ xs m w1.heap.size wr HU.out HCN.out)
        have hcn := HCN.out
        have hbf := HBB.out.trans (HB.out.mono HBB.out.size)
        have HBF := Lib.hid hbf
        clear hbf
        cases hlet : xs.all (letB m) with
        | false =>
          have HNO := Lib.hid (show xss.all (wordB m) = false from all_false_at hlt (by rw [HXS.out]; unfold wordB; rw [hlet]; simp))
          rw [hlet] at CF
          clear hlet
          go_wp2_with (go_at_call 86; refine CF.out.mono ?_; rintro e w3 ⟨rfl, rfl⟩)
          go_ret3
          exact .inr ⟨by rw [HMM.out]; exact HNO.out, rfl, HBF.out⟩
        | true =>
          obtain ⟨hn1, hn2⟩ := natW_toI hlet
          have HWB := Lib.hid (show wordB m xs = true by unfold wordB; rw [hlet]; simp; exact h30)
          rw [hlet] at CF
          have hwt : Ints wr (.slice a3 xs.length c3) (toI (natW xs)) := by rw [hn1]; exact HU.out
          have CW := Lib.hid (walk_any bT 0 (.slice a3 xs.length c3) (natW xs) wr (HT.out.below HB.out) HTK.out hwt HTK.out.pos hn2)
          have ho := HO.out
          have hlk : ((xss.take k).map fun xs => walkX (nextG K n) 0 (natW xs)).length ≤ 10 := by rw [List.length_map, List.length_take]; omega
          clear hlet hn1 hn2 hwt
          go_wp2_with (first
            | (go_at_call 86; refine CF.out.mono ?_; rintro e w3 ⟨rfl, rfl⟩)
            | (go_at_call 61; refine CW.out.mono ?_; rintro e w3 ⟨rfl, rfl⟩)
            | (at_builtin; refine wpList_app1_at rfl _ _ rfl w2.heap.size _ (toI ((xss.take k).map fun xs => walkX (nextG K n) 0 (natW xs))) ((walkX (nextG K n) 0 (natW xs) : Nat) : Int) rfl (ho.alloc _) ⟨_, 0, none⟩ 1 rfl (cell_new1 _ _ _) (by rw [toI_length]; omega) (by simp; omega) ?_; intro v4 w4 ho4 hg4 hl4; have HO4 := Lib.hid ho4; have HG4 := Lib.hid hg4; clear ho4 hg4 hl4))
          refine ⟨⟨k + 1, by omega, by push_cast; rfl, by rw [HTA.out, List.all_append, HALL.out]; simp [HWB.out], by rw [HMT.out, toI_append]; exact HO4.out, (HB.out.alloc hzr _).grown HG4.out (by simp; omega) (fun j hj => (HO.out.lt j hj).1)⟩, by simp [intOf]; omega⟩
      · have d30 : (30 : Int) < (xs.length : Int) := by omega
        have HNO := Lib.hid (show xss.all (wordB m) = false from all_false_at hlt (by rw [HXS.out]; unfold wordB; rw [decide_eq_false h30]; rfl))
        have hbf := HBB.out.trans (HB.out.mono HBB.out.size)
        have HBF := Lib.hid hbf
        clear hbf
        go_wp2
        go_ret3
        exact .inr ⟨by rw [HMM.out]; exact HNO.out, rfl, HBF.out⟩
    · obtain rfl : k = xss.length := by omega
      have hki : ¬ ((xss.length : Nat) : Int) < (xss.length : Int) := by omega
      have HYES := Lib.hid (show xss.all (wordB m) = true by have := HALL.out; rwa [List.take_length] at this)
      have HOO := Lib.hid (show OwnI 3 w2.heap.size wr u9 (toI (xss.map fun xs => walkX (nextG K n) 0 (natW xs))) by have := HO.out; rwa [List.take_length] at this)
      go_wp2
      go_ret3
      exact .inl ⟨by rw [HMM.out]; exact HYES.out, bT, _, rfl, HT.out.below HB.out, HOO.out.mono (by have := HBB.out.size; omega), HBB.out.trans (HB.out.mono HBB.out.size)⟩
end Go.Proofs.Ytmlhecfhhhebnaa
