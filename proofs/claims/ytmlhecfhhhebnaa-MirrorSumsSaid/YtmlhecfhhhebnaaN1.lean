/- Sa, Sb, Sc, Sd, Se, Sg, Sh, Si of the seat's texts, in this order. -/
import Derived.Test.YtmlhecfhhhebnaaTab
import Derived.Test.YtmlhecfhhhebnaaLit
import Derived.Test.YtmlhecfhhhebnaaRd
import Derived.Test.YtmlhecfhhhebnaaPu
import Derived.Sort.Grow
import Derived.Test.YtmlhecfhhhebnaaProg
import Derived.Shelf.SlLaysF
import Derived.Shelf.SlLaysH
import Derived.Shelf.SlSortCmp.NoneTotal
import Derived.StillTailTactics
import Derived.Test.YtmlhecfhhhebnaaPs
import Derived.Test.YtmlhecfhhhebnaaMv
import Derived.Test.YtmlhecfhhhebnaaTq
import Derived.Deep.OwnRows

/- The order of the elements' numbers: by length, then by word. Counts. No Go in sight. -/
namespace Go.Proofs.Ytmlhecfhhhebnaa

/-- What slices.Compare gives. -/
def cmpL : List Int → List Int → Int
  | [], [] => 0
  | [], _ :: _ => -1
  | _ :: _, [] => 1
  | x :: xs, y :: ys => if x < y then -1 else if y < x then 1 else cmpL xs ys
theorem cmpL_self : ∀ xs : List Int, cmpL xs xs = 0
  | [] => rfl
  | x :: xs => by simp [cmpL, cmpL_self xs]
def ltL : List Nat → List Nat → Bool
  | [], [] => false
  | [], _ :: _ => true
  | _ :: _, [] => false
  | x :: xs, y :: ys => decide (x < y) || (x == y && ltL xs ys)
theorem cmpL_lt : ∀ {a b : List Nat}, ltL a b = true → cmpL (toI a) (toI b) = -1 ∧ cmpL (toI b) (toI a) = 1
  | [], [], h => by simp [ltL] at h
  | [], _ :: _, _ => ⟨rfl, rfl⟩
  | _ :: _, [], h => by simp [ltL] at h
  | x :: xs, y :: ys, h => by
    have e1 : toI (x :: xs) = (x : Int) :: toI xs := rfl
    have e2 : toI (y :: ys) = (y : Int) :: toI ys := rfl
    simp only [ltL, Bool.or_eq_true, decide_eq_true_eq, Bool.and_eq_true, beq_iff_eq] at h
    rw [e1, e2]
    rcases h with h | ⟨rfl, h⟩
    · simp only [cmpL]
      rw [if_pos (show (x : Int) < (y : Int) by omega), if_neg (show ¬ (y : Int) < (x : Int) by omega), if_pos (show (x : Int) < (y : Int) by omega)]
      exact ⟨rfl, rfl⟩
    · have ih := cmpL_lt h
      simp only [cmpL, show ¬ (x : Int) < (x : Int) by omega, if_false]
      exact ih
/-- What the numbers are sorted by. -/
def cmpN (W : List (List Nat)) (u v : Nat) : Int :=
  if lenX W u < lenX W v then -1 else if lenX W v < lenX W u then 1 else cmpL (toI (W.getD u [])) (toI (W.getD v []))
def cfN (u v : Nat) : Int := if u < v then -1 else if v < u then 1 else 0
def ordB (a b : List Nat) : Bool := decide (a.length < b.length) || (decide (a.length = b.length) && ltL a b)
def pairsB : List (List Nat) → Bool
  | [] => true
  | w :: r => r.all (ordB w) && pairsB r
theorem pairs_all : (allGroups.all fun g => pairsB (litW g.1 g.2)) = true := by decide +kernel
theorem pairsG {K n : Nat} (hv : validB K n = true) : pairsB (wordsG K n) = true := by
  rw [(lit_of hv).1]
  exact List.all_eq_true.1 pairs_all _ (valid_in hv)
theorem pairs_pair : ∀ {W : List (List Nat)}, pairsB W = true → W.Pairwise fun a b => ordB a b = true
  | [], _ => List.Pairwise.nil
  | w :: r, h => by
    simp only [pairsB, Bool.and_eq_true, List.all_eq_true] at h
    exact List.Pairwise.cons h.1 (pairs_pair h.2)
theorem cmpN_cf {W : List (List Nat)} (h : pairsB W = true) {u v : Nat} (hu : u < W.length) (hv : v < W.length) : cmpN W u v = cfN u v := by
  have hp := List.pairwise_iff_getElem.1 (pairs_pair h)
  have hlt : ∀ {a b : Nat} (ha : a < W.length) (hb : b < W.length), a < b → cmpN W a b = -1 ∧ cmpN W b a = 1 := by
    intro a b ha hb hab
    have ho := hp a b ha hb hab
    unfold ordB at ho
    simp only [Bool.or_eq_true, decide_eq_true_eq, Bool.and_eq_true] at ho
    unfold cmpN lenX
    rw [getDL ha, getDL hb]
    rcases ho with ho | ⟨ho, hl⟩
    · rw [if_pos ho, if_neg (by omega), if_pos ho]; exact ⟨rfl, rfl⟩
    · rw [if_neg (by omega), if_neg (by omega), if_neg (by omega), if_neg (by omega)]; exact cmpL_lt hl
  unfold cfN
  by_cases h1 : u < v
  · rw [if_pos h1]; exact (hlt hu hv h1).1
  · rw [if_neg h1]
    by_cases h2 : v < u
    · rw [if_pos h2]; exact (hlt hv hu h2).2
    · rw [if_neg h2]
      obtain rfl : u = v := by omega
      unfold cmpN
      rw [if_neg (by omega), if_neg (by omega), cmpL_self]

/-! ### counts -/
/-- The program's counts: a place more where a length is new. -/
def cntP (out : List Nat) (l : Nat) : List Nat := (if l = out.length then out ++ [0] else out).modify l (· + 1)
def cntTo (W : List (List Nat)) (k : Nat) : List Nat := (W.take k).foldl (fun o w => cntP o w.length) []
def cntB (W : List (List Nat)) : Bool := (List.range W.length).all fun k => decide (lenX W k ≤ (cntTo W k).length)
/-- The reference's. -/
def rcnTo (W : List (List Nat)) (k : Nat) : List Nat := (W.take k).foldl (fun o w => o.modify w.length (· + 1)) (List.replicate (lenX W (W.length - 1) + 1) 0)
def rcnB (W : List (List Nat)) : Bool := W.all fun w => decide (w.length ≤ lenX W (W.length - 1))
theorem cnt_all : (allGroups.all fun g => cntB (litW g.1 g.2) && rcnB (litW g.1 g.2) && cntTo (litW g.1 g.2) (litW g.1 g.2).length == rcnTo (litW g.1 g.2) (litW g.1 g.2).length) = true := by decide +kernel
theorem cntG {K n : Nat} (hv : validB K n = true) : cntB (wordsG K n) = true ∧ rcnB (wordsG K n) = true ∧ cntTo (wordsG K n) (wordsG K n).length = rcnTo (wordsG K n) (wordsG K n).length := by
  rw [(lit_of hv).1]
  have := List.all_eq_true.1 cnt_all _ (valid_in hv)
  simp only [Bool.and_eq_true, beq_iff_eq] at this
  exact ⟨this.1.1, this.1.2, this.2⟩
theorem cnt_succ {W : List (List Nat)} {k : Nat} (hk : k < W.length) : cntTo W (k + 1) = cntP (cntTo W k) (lenX W k) := by
  unfold cntTo lenX
  rw [take_succ' W k hk, List.foldl_append, getDL hk]; rfl
theorem rcn_succ {W : List (List Nat)} {k : Nat} (hk : k < W.length) : rcnTo W (k + 1) = (rcnTo W k).modify (lenX W k) (· + 1) := by
  unfold rcnTo lenX
  rw [take_succ' W k hk, List.foldl_append, getDL hk]; rfl
theorem modify_le {B : Nat} : ∀ (o : List Nat) (l : Nat), (∀ x ∈ o, x ≤ B) → ∀ x ∈ o.modify l (· + 1), x ≤ B + 1
  | [], l, _, x, hx => by cases l <;> simp [List.modify] at hx
  | y :: o, 0, h, x, hx => by
    rcases List.mem_cons.1 (show x ∈ (y + 1) :: o from hx) with rfl | hx
    · have := h y List.mem_cons_self; omega
    · have := h x (List.mem_cons_of_mem _ hx); omega
  | y :: o, l + 1, h, x, hx => by
    rcases List.mem_cons.1 (show x ∈ y :: o.modify l (· + 1) from hx) with rfl | hx
    · have := h x List.mem_cons_self; omega
    · exact modify_le o l (fun z hz => h z (List.mem_cons_of_mem _ hz)) x hx
theorem cnt_le (W : List (List Nat)) : ∀ k, k ≤ W.length → ∀ x ∈ cntTo W k, x ≤ k
  | 0, _, x, hx => by simp [cntTo] at hx
  | k + 1, hk, x, hx => by
    rw [cnt_succ (by omega)] at hx
    unfold cntP at hx
    refine modify_le _ _ (fun y hy => ?_) x hx
    split at hy
    · rcases List.mem_append.1 hy with hy | hy
      · exact cnt_le W k (by omega) y hy
      · have : y = 0 := by simpa using hy
        omega
    · exact cnt_le W k (by omega) y hy
theorem rcn_le (W : List (List Nat)) : ∀ k, k ≤ W.length → ∀ x ∈ rcnTo W k, x ≤ k
  | 0, _, x, hx => by
    have h0 : x ∈ List.replicate (lenX W (W.length - 1) + 1) 0 := hx
    have := List.eq_of_mem_replicate h0
    omega
  | k + 1, hk, x, hx => by
    rw [rcn_succ (by omega)] at hx
    exact modify_le _ _ (rcn_le W k (by omega)) x hx
theorem rcn_len (W : List (List Nat)) : ∀ k, k ≤ W.length → (rcnTo W k).length = lenX W (W.length - 1) + 1
  | 0, _ => by simp [rcnTo]
  | k + 1, hk => by rw [rcn_succ (by omega), List.length_modify, rcn_len W k (by omega)]
end Go.Proofs.Ytmlhecfhhhebnaa

/- cmp.Compare, slices.Compare, cmp.Or, sorted's closure: the walks. -/
namespace Go.Proofs.Ytmlhecfhhhebnaa
open Go.RowKit

theorem isNaN_any (x : Int) (w : World) : Calls Try.prog 97 #[.int .i64 x] w fun e w' => e = .returned (.bool false) ∧ w = w' := by
  have h : (x != x) = false := by simp
  go_enter Try.func97, Try.ntmps97
  go_wp2
  go_ret
  exact ⟨rfl, rfl⟩

def cmp3 (x y : Int) : Int := if x < y then -1 else if y < x then 1 else 0
set_option maxHeartbeats 400000 in
theorem cmpC_any (x y : Int) (w : World) : Calls Try.prog 81 #[.int .i64 x, .int .i64 y] w fun e w' => e = .returned (.int .i64 (cmp3 x y)) ∧ w = w' := by
  have C := Lib.hid (fun x w' => isNaN_any x w')
  by_cases h1 : x < y
  · have HE := Lib.hid (show cmp3 x y = -1 by unfold cmp3; rw [if_pos h1])
    go_enter Try.func81, Try.ntmps81
    go_wp2_with (go_at_call 97; refine (C.out _ _).mono ?_; rintro e w1 ⟨rfl, rfl⟩)
    go_ret
    exact ⟨ret_int HE.out.symm, rfl⟩
  · by_cases h2 : y < x
    · have HE := Lib.hid (show cmp3 x y = 1 by unfold cmp3; rw [if_neg h1, if_pos h2])
      go_enter Try.func81, Try.ntmps81
      go_wp2_with (go_at_call 97; refine (C.out _ _).mono ?_; rintro e w1 ⟨rfl, rfl⟩)
      go_ret
      exact ⟨ret_int HE.out.symm, rfl⟩
    · have HE := Lib.hid (show cmp3 x y = 0 by unfold cmp3; rw [if_neg h1, if_neg h2])
      go_enter Try.func81, Try.ntmps81
      go_wp2_with (go_at_call 97; refine (C.out _ _).mono ?_; rintro e w1 ⟨rfl, rfl⟩)
      go_ret
      exact ⟨ret_int HE.out.symm, rfl⟩

theorem cmpL_drop {xs ys : List Int} {k : Nat} (h1 : k < xs.length) (h2 : k < ys.length) :
    cmpL (xs.drop k) (ys.drop k) = if xs[k] < ys[k] then -1 else if ys[k] < xs[k] then 1 else cmpL (xs.drop (k + 1)) (ys.drop (k + 1)) := by
  rw [List.drop_eq_getElem_cons h1, List.drop_eq_getElem_cons h2]; rfl
theorem cmpL_over {xs ys : List Int} {k : Nat} (h1 : k < xs.length) (h2 : ¬ k < ys.length) : cmpL (xs.drop k) (ys.drop k) = 1 := by
  rw [List.drop_eq_getElem_cons h1, List.drop_of_length_le (show ys.length ≤ k by omega)]; rfl
theorem cmpL_under {xs ys : List Int} {k : Nat} (h1 : ¬ k < xs.length) (h2 : k < ys.length) : cmpL (xs.drop k) (ys.drop k) = -1 := by
  rw [List.drop_of_length_le (show xs.length ≤ k by omega), List.drop_eq_getElem_cons h2]; rfl
theorem cmpL_end {xs ys : List Int} {k : Nat} (h1 : ¬ k < xs.length) (h2 : ¬ k < ys.length) : cmpL (xs.drop k) (ys.drop k) = 0 := by
  rw [List.drop_of_length_le (show xs.length ≤ k by omega), List.drop_of_length_le (show ys.length ≤ k by omega)]; rfl

set_option maxHeartbeats 1000000 in
theorem Compare_any (v1 v2 : Value) (xs ys : List Int) (w : World) (h1 : Ints w v1 xs) (h2 : Ints w v2 ys) :
    Calls Try.prog 50 #[v1, v2] w fun e w' => e = .returned (.int .i64 (cmpL xs ys)) ∧ w = w' := by
  obtain ⟨a, c, rfl, hl1, _, hc1⟩ := h1
  obtain ⟨a', c', rfl, hl2, _, hc2⟩ := h2
  have H1 := Lib.hid hc1
  have H2 := Lib.hid hc2
  have C := Lib.hid (fun x y w' => cmpC_any x y w')
  clear hc1 hc2
  go_enter Try.func50, Try.ntmps50
  go_wp2
  go_loop [11] (fun i => ∃ k : Nat, k ≤ xs.length ∧ k ≤ ys.length ∧ i = .int .i64 k ∧ Hid (cmpL xs ys = cmpL (xs.drop k) (ys.drop k))) (fun i => xs.length - (intOf i).toNat)
  case atStart => exact ⟨0, Nat.zero_le _, Nat.zero_le _, rfl, Lib.hid rfl⟩
  case round =>
    obtain ⟨k, hk1, hk2, rfl, HT⟩ := hrel
    by_cases hlt : k < xs.length
    · obtain ⟨b, off, rfl, hbl, hcell⟩ := H1.out (by intro e; rw [e] at hlt; simp at hlt)
      have hcx := hcell k hlt
      have hki : (k : Int) < (xs.length : Int) := by omega
      clear hcell
      by_cases hlt2 : k < ys.length
      · obtain ⟨b2, off2, rfl, hbl2, hcell2⟩ := H2.out (by intro e; rw [e] at hlt2; simp at hlt2)
        have hcy := hcell2 k hlt2
        have hki2 : (k : Int) < (ys.length : Int) := by omega
        have HD := Lib.hid (cmpL_drop hlt hlt2)
        clear hcell2
        obtain ⟨x, hx⟩ : ∃ x, xs[k] = x := ⟨_, rfl⟩
        obtain ⟨y, hy⟩ : ∃ y, ys[k] = y := ⟨_, rfl⟩
        rw [hx] at hcx HD
        rw [hy] at hcy HD
        clear hx hy
        by_cases h1 : x < y
        · have HC := Lib.hid (show cmp3 x y = -1 by unfold cmp3; rw [if_pos h1])
          have HE := Lib.hid (show cmpL xs ys = -1 by rw [HT.out, HD.out, if_pos h1])
          clear h1
          go_wp2_with (go_at_call 81; refine (C.out _ _ _).mono ?_; rintro e w1 ⟨rfl, rfl⟩; rw [HC.out])
          go_ret
          exact ⟨ret_int HE.out.symm, rfl⟩
        · by_cases h2 : y < x
          · have HC := Lib.hid (show cmp3 x y = 1 by unfold cmp3; rw [if_neg h1, if_pos h2])
            have HE := Lib.hid (show cmpL xs ys = 1 by rw [HT.out, HD.out, if_neg h1, if_pos h2])
            clear h1 h2
            go_wp2_with (go_at_call 81; refine (C.out _ _ _).mono ?_; rintro e w1 ⟨rfl, rfl⟩; rw [HC.out])
            go_ret
            exact ⟨ret_int HE.out.symm, rfl⟩
          · have HC := Lib.hid (show cmp3 x y = 0 by unfold cmp3; rw [if_neg h1, if_neg h2])
            have HE := Lib.hid (show cmpL xs ys = cmpL (xs.drop (k + 1)) (ys.drop (k + 1)) by rw [HT.out, HD.out, if_neg h1, if_neg h2])
            clear h1 h2
            go_wp2_with (go_at_call 81; refine (C.out _ _ _).mono ?_; rintro e w1 ⟨rfl, rfl⟩; rw [HC.out])
            go_round
            case rel => exact ⟨k + 1, by omega, by omega, by go_num, HE⟩
            case measure => simp [intOf]; omega
      · have hki2 : ¬ (k : Int) < (ys.length : Int) := by omega
        have hki3 : (ys.length : Int) ≤ (k : Int) := by omega
        have HE := Lib.hid (show cmpL xs ys = 1 by rw [HT.out, cmpL_over hlt hlt2])
        go_wp2
        go_ret
        exact ⟨ret_int HE.out.symm, rfl⟩
    · have hki : ¬ (k : Int) < (xs.length : Int) := by omega
      by_cases hlt2 : k < ys.length
      · have HE := Lib.hid (show cmpL xs ys = -1 by rw [HT.out, cmpL_under hlt hlt2])
        have hll : xs.length < ys.length := by omega
        have hli : (xs.length : Int) < (ys.length : Int) := by omega
        go_wp2
        go_ret
        exact ⟨ret_int HE.out.symm, rfl⟩
      · have HE := Lib.hid (show cmpL xs ys = 0 by rw [HT.out, cmpL_end hlt hlt2])
        have hll : ¬ xs.length < ys.length := by omega
        have hli : ¬ (xs.length : Int) < (ys.length : Int) := by omega
        go_wp2
        go_ret
        exact ⟨ret_int HE.out.symm, rfl⟩

/-- The first that is not 0. -/
def orL : List Int → Int
  | [] => 0
  | x :: xs => if x = 0 then orL xs else x
theorem orL_drop {xs : List Int} {k : Nat} (h : k < xs.length) : orL (xs.drop k) = if xs[k] = 0 then orL (xs.drop (k + 1)) else xs[k] := by
  rw [List.drop_eq_getElem_cons h]; rfl
set_option maxHeartbeats 400000 in
theorem cmpOr_any (v : Value) (xs : List Int) (w : World) (h : Ints w v xs) :
    Calls Try.prog 115 #[v] w fun e w' => e = .returned (.int .i64 (orL xs)) ∧ w = w' := by
  obtain ⟨a, c, rfl, hl1, _, hc1⟩ := h
  have H1 := Lib.hid hc1
  clear hc1
  go_enter Try.func115, Try.ntmps115
  go_wp2
  go_loop [8] (fun i => ∃ k : Nat, k ≤ xs.length ∧ i = .int .i64 k ∧ Hid (orL xs = orL (xs.drop k))) (fun i => xs.length - (intOf i).toNat)
  case atStart => exact ⟨0, Nat.zero_le _, rfl, Lib.hid rfl⟩
  case round =>
    obtain ⟨k, hk1, rfl, HT⟩ := hrel
    by_cases hlt : k < xs.length
    · obtain ⟨b, off, rfl, hbl, hcell⟩ := H1.out (by intro e; rw [e] at hlt; simp at hlt)
      have hcx := hcell k hlt
      have hki : (k : Int) < (xs.length : Int) := by omega
      have HD := Lib.hid (orL_drop hlt)
      clear hcell
      obtain ⟨x, hx⟩ : ∃ x, xs[k] = x := ⟨_, rfl⟩
      rw [hx] at hcx HD
      clear hx
      by_cases h0 : x = 0
      · have HE := Lib.hid (show orL xs = orL (xs.drop (k + 1)) by rw [HT.out, HD.out, if_pos h0])
        subst h0
        go_wp2
        go_round
        case rel => exact ⟨k + 1, by omega, by go_num, HE⟩
        case measure => simp [intOf]; omega
      · have HE := Lib.hid (show orL xs = x by rw [HT.out, HD.out, if_neg h0])
        have hb : (x != 0) = true := by simpa using h0
        go_wp2
        go_ret
        exact ⟨ret_int HE.out.symm, rfl⟩
    · have hki : ¬ (k : Int) < (xs.length : Int) := by omega
      have HE := Lib.hid (show orL xs = 0 by rw [HT.out, List.drop_of_length_le (by omega)]; rfl)
      go_wp2
      go_ret
      exact ⟨ret_int HE.out.symm, rfl⟩
end Go.Proofs.Ytmlhecfhhhebnaa

/- Contracts of Go's library that the kit's shelf lays for this program, in plain words. -/
namespace Go.Proofs.Ytmlhecfhhhebnaa
open Go.Shelf
def sortN_ren : Go.Shelf.Ren := ⟨fun | 6 => 113 | 15 => 94 | 14 => 121 | 28 => 111 | 29 => 112 | 20 => 123 | 21 => 124 | 22 => 125 | 23 => 126 | 24 => 127 | 25 => 128 | 26 => 129 | 27 => 130 | 46 => 131 | 47 => 117 | 48 => 118 | 49 => 132 | 50 => 133 | 57 => 134 | n => n, fun | 22 => 24 | 24 => 3 | 25 => 92 | 3 => 3 | 39 => 91 | 0 => 0 | 53 => 127 | 55 => 129 | 4 => 4 | 46 => 121 | 45 => 120 | 50 => 62 | 5 => 5 | 9 => 9 | 66 => 132 | 70 => 136 | 76 => 139 | 77 => 140 | n => n, fun | n => n⟩
theorem sortN : Go.Proofs.SlLaysF.n6 Try.prog sortN_ren := {
  mixed := by kernel_rfl,
  f6 := ⟨Try.f113.name, by decide, Try.func113.trans (congrArg some (by kernel_rfl))⟩,
  f14 := ⟨Try.f121.name, by decide, Try.func121.trans (congrArg some (by kernel_rfl))⟩,
  f15 := Try.func94.trans (congrArg some (by kernel_rfl)),
  f20 := ⟨Try.f123.name, by decide, Try.func123.trans (congrArg some (by kernel_rfl))⟩,
  f21 := ⟨Try.f124.name, by decide, Try.func124.trans (congrArg some (by kernel_rfl))⟩,
  f22 := ⟨Try.f125.name, by decide, Try.func125.trans (congrArg some (by kernel_rfl))⟩,
  f23 := ⟨Try.f126.name, by decide, Try.func126.trans (congrArg some (by kernel_rfl))⟩,
  f24 := ⟨Try.f127.name, by decide, Try.func127.trans (congrArg some (by kernel_rfl))⟩,
  f25 := ⟨Try.f128.name, by decide, Try.func128.trans (congrArg some (by kernel_rfl))⟩,
  f26 := ⟨Try.f129.name, by decide, Try.func129.trans (congrArg some (by kernel_rfl))⟩,
  f27 := ⟨Try.f130.name, by decide, Try.func130.trans (congrArg some (by kernel_rfl))⟩,
  f28 := Try.func111.trans (congrArg some (by kernel_rfl)),
  f29 := Try.func112.trans (congrArg some (by kernel_rfl)),
  f46 := ⟨Try.f131.name, by decide, Try.func131.trans (congrArg some (by kernel_rfl))⟩,
  f47 := Try.func117.trans (congrArg some (by kernel_rfl)),
  f48 := Try.func118.trans (congrArg some (by kernel_rfl)),
  f49 := ⟨Try.f132.name, by decide, Try.func132.trans (congrArg some (by kernel_rfl))⟩,
  f50 := ⟨Try.f133.name, by decide, Try.func133.trans (congrArg some (by kernel_rfl))⟩,
  f57 := ⟨Try.f134.name, by decide, Try.func134.trans (congrArg some (by kernel_rfl))⟩,
  t0 := Try.underlying0,
  a0 := Try.isAgg0,
  z0 := Try.sizeOf0,
  v0 := Try.zeroValue0,
  t3 := Try.underlying3,
  a3 := Try.isAgg3,
  z3 := Try.sizeOf3,
  v3 := Try.zeroValue3,
  t4 := Try.underlying4,
  a4 := Try.isAgg4,
  z4 := Try.sizeOf4,
  v4 := Try.zeroValue4,
  t5 := Try.underlying5,
  a5 := Try.isAgg5,
  z5 := Try.sizeOf5,
  v5 := Try.zeroValue5,
  t9 := Try.underlying9,
  a9 := Try.isAgg9,
  z9 := Try.sizeOf9,
  v9 := Try.zeroValue9,
  t22 := Try.underlying24,
  a22 := Try.isAgg24,
  z22 := Try.sizeOf24,
  v22 := Try.zeroValue24,
  a24 := Try.isAgg3,
  z24 := Try.sizeOf3,
  t25 := Try.underlying92,
  a25 := Try.isAgg92,
  z25 := Try.sizeOf92,
  v25 := Try.zeroValue92,
  t39 := Try.underlying91,
  a39 := Try.isAgg91,
  z39 := Try.sizeOf91,
  v39 := Try.zeroValue91,
  t45 := Try.underlying120,
  a45 := Try.isAgg120,
  z45 := Try.sizeOf120,
  v45 := Try.zeroValue120,
  t46 := Try.underlying121,
  a46 := Try.isAgg121,
  z46 := Try.sizeOf121,
  v46 := Try.zeroValue121,
  t50 := Try.underlying62,
  a50 := Try.isAgg62,
  z50 := Try.sizeOf62,
  v50 := Try.zeroValue62,
  t53 := Try.underlying127,
  a53 := Try.isAgg127,
  z53 := Try.sizeOf127,
  v53 := Try.zeroValue127,
  t55 := Try.underlying129,
  a55 := Try.isAgg129,
  z55 := Try.sizeOf129,
  v55 := Try.zeroValue129,
  t66 := Try.underlying132,
  a66 := Try.isAgg132,
  z66 := Try.sizeOf132,
  v66 := Try.zeroValue132,
  t70 := Try.underlying136,
  a70 := Try.isAgg136,
  z70 := Try.sizeOf136,
  v70 := Try.zeroValue136,
  t76 := Try.underlying139,
  a76 := Try.isAgg139,
  z76 := Try.sizeOf139,
  v76 := Try.zeroValue139,
  t77 := Try.underlying140,
  a77 := Try.isAgg140,
  z77 := Try.sizeOf140,
  v77 := Try.zeroValue140 }
def sortW_ren : Go.Shelf.Ren := ⟨fun | 6 => 77 | 15 => 94 | 14 => 93 | 28 => 111 | 29 => 112 | 20 => 103 | 21 => 104 | 22 => 105 | 23 => 106 | 24 => 107 | 25 => 108 | 26 => 109 | 27 => 110 | 46 => 116 | 47 => 117 | 48 => 118 | 49 => 119 | 50 => 120 | 57 => 122 | n => n, fun | 22 => 34 | 24 => 24 | 25 => 64 | 3 => 3 | 39 => 91 | 0 => 0 | 53 => 127 | 55 => 129 | 4 => 4 | 46 => 121 | 45 => 120 | 50 => 62 | 5 => 5 | 9 => 9 | 66 => 132 | 70 => 136 | 76 => 139 | 77 => 140 | n => n, fun | n => n⟩
theorem sortW : Go.Proofs.SlLaysF.n6 Try.prog sortW_ren := {
  mixed := by kernel_rfl,
  f6 := ⟨Try.f77.name, by decide, Try.func77.trans (congrArg some (by kernel_rfl))⟩,
  f14 := ⟨Try.f93.name, by decide, Try.func93.trans (congrArg some (by kernel_rfl))⟩,
  f15 := Try.func94.trans (congrArg some (by kernel_rfl)),
  f20 := ⟨Try.f103.name, by decide, Try.func103.trans (congrArg some (by kernel_rfl))⟩,
  f21 := ⟨Try.f104.name, by decide, Try.func104.trans (congrArg some (by kernel_rfl))⟩,
  f22 := ⟨Try.f105.name, by decide, Try.func105.trans (congrArg some (by kernel_rfl))⟩,
  f23 := ⟨Try.f106.name, by decide, Try.func106.trans (congrArg some (by kernel_rfl))⟩,
  f24 := ⟨Try.f107.name, by decide, Try.func107.trans (congrArg some (by kernel_rfl))⟩,
  f25 := ⟨Try.f108.name, by decide, Try.func108.trans (congrArg some (by kernel_rfl))⟩,
  f26 := ⟨Try.f109.name, by decide, Try.func109.trans (congrArg some (by kernel_rfl))⟩,
  f27 := ⟨Try.f110.name, by decide, Try.func110.trans (congrArg some (by kernel_rfl))⟩,
  f28 := Try.func111.trans (congrArg some (by kernel_rfl)),
  f29 := Try.func112.trans (congrArg some (by kernel_rfl)),
  f46 := ⟨Try.f116.name, by decide, Try.func116.trans (congrArg some (by kernel_rfl))⟩,
  f47 := Try.func117.trans (congrArg some (by kernel_rfl)),
  f48 := Try.func118.trans (congrArg some (by kernel_rfl)),
  f49 := ⟨Try.f119.name, by decide, Try.func119.trans (congrArg some (by kernel_rfl))⟩,
  f50 := ⟨Try.f120.name, by decide, Try.func120.trans (congrArg some (by kernel_rfl))⟩,
  f57 := ⟨Try.f122.name, by decide, Try.func122.trans (congrArg some (by kernel_rfl))⟩,
  t0 := Try.underlying0,
  a0 := Try.isAgg0,
  z0 := Try.sizeOf0,
  v0 := Try.zeroValue0,
  t3 := Try.underlying3,
  a3 := Try.isAgg3,
  z3 := Try.sizeOf3,
  v3 := Try.zeroValue3,
  t4 := Try.underlying4,
  a4 := Try.isAgg4,
  z4 := Try.sizeOf4,
  v4 := Try.zeroValue4,
  t5 := Try.underlying5,
  a5 := Try.isAgg5,
  z5 := Try.sizeOf5,
  v5 := Try.zeroValue5,
  t9 := Try.underlying9,
  a9 := Try.isAgg9,
  z9 := Try.sizeOf9,
  v9 := Try.zeroValue9,
  t22 := Try.underlying34,
  a22 := Try.isAgg34,
  z22 := Try.sizeOf34,
  v22 := Try.zeroValue34,
  a24 := Try.isAgg24,
  z24 := Try.sizeOf24,
  t25 := Try.underlying64,
  a25 := Try.isAgg64,
  z25 := Try.sizeOf64,
  v25 := Try.zeroValue64,
  t39 := Try.underlying91,
  a39 := Try.isAgg91,
  z39 := Try.sizeOf91,
  v39 := Try.zeroValue91,
  t45 := Try.underlying120,
  a45 := Try.isAgg120,
  z45 := Try.sizeOf120,
  v45 := Try.zeroValue120,
  t46 := Try.underlying121,
  a46 := Try.isAgg121,
  z46 := Try.sizeOf121,
  v46 := Try.zeroValue121,
  t50 := Try.underlying62,
  a50 := Try.isAgg62,
  z50 := Try.sizeOf62,
  v50 := Try.zeroValue62,
  t53 := Try.underlying127,
  a53 := Try.isAgg127,
  z53 := Try.sizeOf127,
  v53 := Try.zeroValue127,
  t55 := Try.underlying129,
  a55 := Try.isAgg129,
  z55 := Try.sizeOf129,
  v55 := Try.zeroValue129,
  t66 := Try.underlying132,
  a66 := Try.isAgg132,
  z66 := Try.sizeOf132,
  v66 := Try.zeroValue132,
  t70 := Try.underlying136,
  a70 := Try.isAgg136,
  z70 := Try.sizeOf136,
  v70 := Try.zeroValue136,
  t76 := Try.underlying139,
  a76 := Try.isAgg139,
  z76 := Try.sizeOf139,
  v76 := Try.zeroValue139,
  t77 := Try.underlying140,
  a77 := Try.isAgg140,
  z77 := Try.sizeOf140,
  v77 := Try.zeroValue140 }
def delN_ren : Go.Shelf.Ren := ⟨fun | 10 => 83 | 6 => 98 | n => n, fun | 22 => 24 | 23 => 3 | 25 => 95 | 3 => 3 | 4 => 4 | 0 => 0 | n => n, fun | n => n⟩
theorem delN : Go.Proofs.SlLaysH.n10 Try.prog delN_ren := {
  mixed := by kernel_rfl,
  f6 := ⟨Try.f98.name, by decide, Try.func98.trans (congrArg some (by kernel_rfl))⟩,
  f10 := ⟨Try.f83.name, by decide, Try.func83.trans (congrArg some (by kernel_rfl))⟩,
  t0 := Try.underlying0,
  a0 := Try.isAgg0,
  z0 := Try.sizeOf0,
  v0 := Try.zeroValue0,
  t3 := Try.underlying3,
  a3 := Try.isAgg3,
  z3 := Try.sizeOf3,
  v3 := Try.zeroValue3,
  t4 := Try.underlying4,
  a4 := Try.isAgg4,
  z4 := Try.sizeOf4,
  v4 := Try.zeroValue4,
  t22 := Try.underlying24,
  a22 := Try.isAgg24,
  z22 := Try.sizeOf24,
  v22 := Try.zeroValue24,
  a23 := Try.isAgg3,
  z23 := Try.sizeOf3,
  t25 := Try.underlying95,
  a25 := Try.isAgg95,
  z25 := Try.sizeOf95,
  v25 := Try.zeroValue95 }
end Go.Proofs.Ytmlhecfhhhebnaa

/- sorted$1, sorted, numbers: the walks. -/
namespace Go.Proofs.Ytmlhecfhhhebnaa
open Go.RowKit Go.Shelf Go.Lib Go.Sort

/-- What a call of the comparison leaves. -/
def CmpEnd (z : Int) (W : World) (e : Ending) (w' : World) : Prop := e = .returned (.int .i64 z) ∧ ∃ q os', w' = grow (W.drewN q) os'
theorem orL_two (a b : Int) : orL [a, b] = if a = 0 then b else a := by
  unfold orL
  by_cases h : a = 0
  · rw [if_pos h, if_pos h]
    unfold orL
    by_cases h2 : b = 0
    · rw [if_pos h2, h2]; rfl
    · rw [if_neg h2]
  · rw [if_neg h, if_neg h]
theorem cmpN_or (W : List (List Nat)) (u v : Nat) : orL [cmp3 (lenX W u) (lenX W v), cmpL (toI (W.getD u [])) (toI (W.getD v []))] = cmpN W u v := by
  rw [orL_two]
  unfold cmp3 cmpN
  by_cases h1 : lenX W u < lenX W v
  · rw [if_pos h1, if_pos (show (lenX W u : Int) < (lenX W v : Int) by omega)]; rfl
  · rw [if_neg h1, if_neg (show ¬ (lenX W u : Int) < (lenX W v : Int) by omega)]
    by_cases h2 : lenX W v < lenX W u
    · rw [if_pos h2, if_pos (show (lenX W v : Int) < (lenX W u : Int) by omega)]; rfl
    · rw [if_neg h2, if_neg (show ¬ (lenX W v : Int) < (lenX W u : Int) by omega)]; rfl

theorem two_ints {w : World} {g : Nat} {a b : Int} (h0 : w.cell? ⟨g, 0, none⟩ = some (.int .i64 a)) (h1 : w.cell? ⟨g, 1, none⟩ = some (.int .i64 b)) (hg : g < w.heap.size) : Ints w (.slice (some ⟨g, 0, none⟩) 2 2) [a, b] := by
  refine ⟨_, 2, rfl, by simp, by simp, fun _ => ⟨g, 0, rfl, hg, fun i hi => ?_⟩⟩
  have hi2 : i = 0 ∨ i = 1 := by simp at hi; omega
  rcases hi2 with rfl | rfl
  · simpa using h0
  · simpa using h1

set_option maxRecDepth 20000 in
set_option maxHeartbeats 2000000 in
theorem cmpF_any {K n m N : Nat} {W X : List (List Nat)} (bT B u v : Nat) (w : World) (ht : TabIs K n W X w bT) (hk : Tk m N W X) (hb : w.cell? ⟨B, 0, none⟩ = some (.pointer (some ⟨bT, 0, none⟩))) (hu : u < N) (hv : v < N) :
    Calls Try.prog 114 #[.int .i64 (u : Nat), .int .i64 (v : Nat), .pointer (some ⟨B, 0, none⟩)] w (CmpEnd (cmpN W u v) w) := by
  have hN := hk.small
  have hul : u < W.length := by rw [hk.lw]; exact hu
  have hvl : v < W.length := by rw [hk.lw]; exact hv
  have L1 := Lib.hid ((length_any bT u w.drew (ht.drewN 1) hk hu).mono (fun e w' (hh : e = .returned (.int .i64 ((lenX W u : Nat) : Int)) ∧ w.drew = w') => (⟨hh.1, hh.2.symm⟩ : e = .returned (.int .i64 ((lenX W u : Nat) : Int)) ∧ w' = w.drew)))
  have L2 := Lib.hid ((length_any bT v w.drew (ht.drewN 1) hk hv).mono (fun e w' (hh : e = .returned (.int .i64 ((lenX W v : Nat) : Int)) ∧ w.drew = w') => (⟨hh.1, hh.2.symm⟩ : e = .returned (.int .i64 ((lenX W v : Nat) : Int)) ∧ w' = w.drew)))
  have HO := Lib.hid (cmpN_or W u v)
  have OR := Lib.hid (fun (g : Nat) (w' : World) (h : Ints w' (.slice (some ⟨g, 0, none⟩) 2 2) [cmp3 (lenX W u) (lenX W v), cmpL (toI (W.getD u [])) (toI (W.getD v []))]) => cmpOr_any _ _ w' h)
  obtain ⟨vW, vX, vM, hh, hW, _⟩ := ht
  obtain ⟨gW, cap, ra, rc, e, hgc, hrc, hin, _⟩ := hW.cells u hul
  obtain ⟨gW2, cap2, ra2, rc2, e2, hgc2, hrc2, hin2, _⟩ := hW.cells v hvl
  have ct := hh.at (i := 2) rfl
  have hlu : lenX W u = (W[u]).length := by unfold lenX; rw [getDL hul]
  have hlv : lenX W v = (W[v]).length := by unfold lenX; rw [getDL hvl]
  rw [← getDL hul] at hin
  rw [← getDL hvl] at hin2
  have CC := Lib.hid ((Compare_any _ _ _ _ w.drew (hin.below ((Below.refl _ _).drew)) (hin2.below ((Below.refl _ _).drew))).mono (fun e w' (hh : e = .returned (.int .i64 (cmpL (toI (W.getD u [])) (toI (W.getD v [])))) ∧ w.drew = w') => (⟨hh.1, hh.2.symm⟩ : e = .returned (.int .i64 (cmpL (toI (W.getD u [])) (toI (W.getD v [])))) ∧ w' = w.drew)))
  subst e
  obtain ⟨e1, _, _⟩ := Value.slice.inj e2
  obtain rfl : gW = gW2 := by simpa using e1
  have CL := Lib.hid ((cmpC_any (lenX W u) (lenX W v) w.drew).mono (fun e w' (hh : e = .returned (.int .i64 (cmp3 (lenX W u) (lenX W v))) ∧ w.drew = w') => (⟨hh.1, hh.2.symm⟩ : e = .returned (.int .i64 (cmp3 (lenX W u) (lenX W v))) ∧ w' = w.drew)))
  obtain ⟨c1, hc1⟩ : ∃ c1, cmp3 (lenX W u) (lenX W v) = c1 := ⟨_, rfl⟩
  obtain ⟨c2, hc2⟩ : ∃ c2, cmpL (toI (W.getD u [])) (toI (W.getD v [])) = c2 := ⟨_, rfl⟩
  rw [hc1] at CL HO OR
  rw [hc2] at CC HO OR
  have hxU : (u : Int) < (W.length : Int) := by omega
  have hxV : (v : Int) < (W.length : Int) := by omega
  rw [getDL hul, getDL hvl] at CC
  clear hh hW hk hin hin2 e2 e1 hc1 hc2 hlu hlv
  go_enter Try.func114, Try.ntmps114
  go_upto_region 1 with (fail)
  go_still_tail 22, (by kernel_rfl)
  still_call L1.out
  repeat still_step
  still_call L2.out
  repeat still_step
  still_call CL.out
  repeat still_step
  still_call CC.out
  refine wpStill_nil ?_
  go_wp2_with (go_at_call 115; refine (OR.out _ _ (two_ints (by simp) (by simp) (by simp))).mono ?_; rintro e w2 ⟨rfl, rfl⟩)
  go_ret
  refine ⟨ret_int HO.out, 1, #[.cells #[.int .i64 c1, .int .i64 c2] 3], ?_⟩
  rw [alloc_eq_grow]; rfl
end Go.Proofs.Ytmlhecfhhhebnaa

/- sorted, numbers, list, All, Counts: the walks. -/
namespace Go.Proofs.Ytmlhecfhhhebnaa
open Go.RowKit Go.Shelf Go.Lib Go.Sort

theorem below_sortWorld {α : Type} [Inhabited α] {B : Nat} (enc : α → Value) (w : World) (blk off n : Nat) (d : Array α) (os : Array Obj) (hB : B ≤ blk) (hs : B ≤ w.heap.size) : Below B w (sortWorld enc w blk off n d os) := by
  refine ⟨rfl, rfl, rfl, ?_, fun j hj => ?_⟩
  · unfold sortWorld
    rw [size_grow, size_putRow, heap_ahead]
    omega
  · unfold sortWorld
    rw [heap_grow_old _ os (by rw [size_putRow, heap_ahead]; omega)]
    unfold putRow mapBlock
    have hne : blk ≠ j := by omega
    simp [Array.getElem?_modify, hne]
theorem below_grow_ahead (B : Nat) (w : World) (n : Nat) (os : Array Obj) (hs : B ≤ w.heap.size) : Below B w (grow (Sort.ahead w n) os) := by
  refine ⟨rfl, rfl, rfl, ?_, fun j hj => ?_⟩
  · rw [size_grow, heap_ahead]; omega
  · rw [heap_grow_old _ os (by rw [heap_ahead]; omega)]; rfl

def encF (N : Nat) (i : Fin N) : Value := .int .i64 ((i.val : Nat) : Int)
def cfF (N : Nat) (i j : Fin N) : Int := cfN i.val j.val
theorem ltF (N : Nat) (i j : Fin N) : ltOf (cfF N) i j = decide (i.val < j.val) := by
  unfold ltOf cfF cfN
  by_cases h1 : i.val < j.val
  · simp [h1]
  · by_cases h2 : j.val < i.val <;> simp [h1, h2]
theorem swoF (N : Nat) : SWO (ltOf (cfF N)) where
  irrefl x := by rw [ltF]; simp
  trans x y z h1 h2 := by rw [ltF] at *; simp at *; omega
  ntrans x y z h1 h2 := by rw [ltF] at *; simp at *; omega
theorem totF (N : Nat) (x y : Fin N) (h1 : ltOf (cfF N) x y = false) (h2 : ltOf (cfF N) y x = false) : x = y := by
  rw [ltF] at *
  simp at h1 h2
  exact Fin.ext (by omega)
theorem range_fin (N : Nat) : ((List.finRange N).mergeSort fun x y => !(ltOf (cfF N)) y x) = List.finRange N := by
  refine List.mergeSort_of_pairwise ?_
  refine List.pairwise_iff_getElem.2 fun i j hi hj hij => ?_
  rw [ltF]
  simp
  omega
theorem holds_fin {e : TypeId} {B N g cap : Nat} {w : World} [Inhabited (Fin N)] (h : OwnI e B w (.slice (some ⟨g, 0, none⟩) N cap) (toI (List.range N))) : Holds (encF N) w g 0 (List.finRange N).toArray := by
  intro j hj
  have hjN : j < N := by simpa using hj
  refine ⟨?_, ?_⟩
  · rw [Nat.zero_add, h.cellN j (by simpa using hjN), getElem!_pos (List.finRange N).toArray j hj]
    simp [encF]
  · rw [Nat.zero_add]; exact h.frozenN j

set_option maxRecDepth 20000 in
set_option maxHeartbeats 1000000 in
theorem sorted_any {K n m N : Nat} {W X : List (List Nat)} (bT g cap B : Nat) (w0 w : World) (ht : TabIs K n W X w0 bT) (hk : Tk m N W X) (hp : pairsB W = true) (hb0 : Below w0.heap.size w0 w) (hle : w0.heap.size ≤ B)
    (hown : OwnI 3 B w (.slice (some ⟨g, 0, none⟩) N cap) (toI (List.range N))) :
    Calls Try.prog 96 #[.pointer (some ⟨bT, 0, none⟩), .slice (some ⟨g, 0, none⟩) N cap] w fun e w' => e = .returned (.slice (some ⟨g, 0, none⟩) N cap) ∧ Below w.heap.size w w' := by
  haveI : Inhabited (Fin N) := ⟨⟨0, hk.pos⟩⟩
  have hN := hk.small
  have hg := hown.blockEq
  have eg : ∀ args w, (callFunc 114 args).run Try.prog w = .ok (.enter 114 args) w := enters_of Try.func114 (by kernel_rfl) rfl
  obtain ⟨w1, hw1⟩ : ∃ w1, w.alloc (.cells #[.pointer (some ⟨bT, 0, none⟩)] 71) = w1 := ⟨_, rfl⟩
  have hbw : Below w.heap.size w w1 := by rw [← hw1]; exact (Below.refl _ _).alloc (Nat.le_refl _) _
  have hbox : w1.cell? ⟨w.heap.size, 0, none⟩ = some (.pointer (some ⟨bT, 0, none⟩)) := by rw [← hw1]; simp
  have hsz1 : w1.heap.size = w.heap.size + 1 := by rw [← hw1]; simp
  have hH : Holds (encF N) w1 g 0 (List.finRange N).toArray := by
    have := holds_fin (hown.alloc (.cells #[.pointer (some ⟨bT, 0, none⟩)] 71))
    rwa [hw1] at this
  have hcmp : CmpLays1 Try.prog 114 #[.pointer (some ⟨w.heap.size, 0, none⟩)] (encF N) (cfF N) g 0 (List.finRange N).toArray.size w1 := by
    intro q os dk hdk x y
    have hb1 : Below w0.heap.size w0 w1 := hb0.trans (hbw.mono hb0.size)
    have hbs : Below w0.heap.size w0 (sortWorld (encF N) w1 g 0 q dk os) := hb1.trans (below_sortWorld (encF N) w1 g 0 q dk os (by omega) hb1.size)
    have hc : (sortWorld (encF N) w1 g 0 q dk os).cell? ⟨w.heap.size, 0, none⟩ = some (.pointer (some ⟨bT, 0, none⟩)) := by
      unfold sortWorld
      rw [cell?_grow _ _ _ (by rw [size_putRow, heap_ahead, hsz1]; show w.heap.size < _; omega), cell?_putRow_other _ _ _ _ _ _ (.inl (by show w.heap.size ≠ g; omega))]
      exact hbox
    have := cmpF_any bT w.heap.size x.val y.val _ (ht.below hbs) hk hc x.isLt y.isLt
    rw [cmpN_cf hp (by rw [hk.lw]; exact x.isLt) (by rw [hk.lw]; exact y.isLt)] at this
    exact this
  have hS := Any.slices_SortFunc_total sortN (encF N) (fun _ => rfl) (cfF N) (swoF N) 114 #[.pointer (some ⟨w.heap.size, 0, none⟩)] g 0 cap (List.finRange N).toArray w1 eg hcmp hH (by omega) (by simp; omega) (totF N)
  change Calls Try.prog 113 _ _ _ at hS
  rw [List.size_toArray, List.length_finRange, List.toList_toArray, range_fin] at hS
  have HS := Lib.hid (hS.mono (fun e w' (hh : e = .returned (.tuple #[]) ∧ ∃ n os, w' = sortWorld (encF N) w1 g 0 n (List.finRange N).toArray os) => show e = .returned (.tuple #[]) ∧ Below w1.heap.size w1 w' from ⟨hh.1, by
    obtain ⟨n, os, rfl⟩ := hh.2
    unfold sortWorld
    rw [putRow_ahead, putRow_self _ _ _ _ _ hH]
    exact below_grow_ahead _ w1 n os (Nat.le_refl _)⟩))
  rw [← hw1] at HS
  clear hcmp hH hbox hbw hsz1 hw1 hS eg hown hp hk ht hb0
  go_enter Try.func96, Try.ntmps96
  go_wp2_with (go_at_call 113; refine HS.out.mono ?_; rintro e w2 ⟨rfl, hb2⟩)
  go_ret
  exact ⟨rfl, below_al (Nat.le_refl _) hb2⟩

set_option maxRecDepth 20000 in
set_option maxHeartbeats 1000000 in
theorem numbers_any {K n m N : Nat} {W X : List (List Nat)} (bT : Nat) (w : World) (ht : TabIs K n W X w bT) (hk : Tk m N W X) (hp : pairsB W = true) :
    Calls Try.prog 80 #[.pointer (some ⟨bT, 0, none⟩)] w fun e w' => ∃ g cap, e = .returned (.slice (some ⟨g, 0, none⟩) N cap) ∧ OwnI 3 w.heap.size w' (.slice (some ⟨g, 0, none⟩) N cap) (toI (List.range N)) ∧ Below w.heap.size w w' := by
  have SO := Lib.hid (fun (g cap : Nat) (w' : World) (hb0 : Below w.heap.size w w') (hown : OwnI 3 w.heap.size w' (.slice (some ⟨g, 0, none⟩) N cap) (toI (List.range N))) => sorted_any bT g cap w.heap.size w w' ht hk hp hb0 (Nat.le_refl _) hown)
  have hN := hk.small
  have hpos := hk.pos
  obtain ⟨vW, vX, vM, hh, hW, _⟩ := ht
  obtain ⟨aW, cW, rfl⟩ := hW.form
  have ct := hh.at (i := 2) rfl
  have hlw := hk.lw
  rw [hlw] at ct
  clear hh hW hk hp hlw
  go_enter Try.func80, Try.ntmps80
  go_wp2
  go_loopw [3, 10] (fun o ix wr => ∃ k : Nat, k ≤ N ∧ ix = .int .i64 k ∧ OwnI 3 w.heap.size wr o (toI (List.range k)) ∧ Below w.heap.size w wr) (fun _ i _ => N - (intOf i).toNat)
  case atStart => exact ⟨0, Nat.zero_le _, rfl, OwnI.nil _ _ _, Below.refl _ _⟩
  case round =>
    obtain ⟨k, hk, rfl, ho, hb⟩ := hrel
    by_cases hlt : k < N
    · have hki : (k : Int) < (N : Int) := by omega
      have hle := hb.size
      have HR := Lib.hid (List.range_succ (n := k))
      have HB := Lib.hid hb
      clear hb
      go_wp2_with (at_builtin; refine wpList_app1_at rfl _ _ rfl w.heap.size _ (toI (List.range k)) ((k : Nat) : Int) rfl (ho.alloc _) ⟨_, 0, none⟩ 1 rfl (cell_new1 _ _ _) (by rw [toI_length, List.length_range]; omega) (by simp; omega) ?_; intro v4 w4 ho4 hg4 hl4; have HO4 := Lib.hid ho4; have HG4 := Lib.hid hg4; clear ho4 hg4 hl4)
      go_roundw
      case rel => exact ⟨k + 1, by omega, by go_num, by rw [HR.out, toI_append]; exact HO4.out, (HB.out.alloc hle _).grown HG4.out (by simp; omega) (fun j hj => (ho.lt j hj).1)⟩
      case measure => simp [intOf]; omega
    · obtain rfl : k = N := by omega
      have hki : ¬ (k : Int) < (k : Int) := by omega
      have hlen : (List.range k).length = k := List.length_range
      obtain ⟨g, cap, e6⟩ := ho.row1 (by rw [hlen]; omega)
      rw [hlen] at e6
      subst e6
      have HO := Lib.hid ho
      have HB := Lib.hid hb
      clear ho hb hlen
      go_wp2_with (go_at_call 96; refine (SO.out g cap _ HB.out HO.out).mono ?_; rintro e w2 ⟨rfl, hb2⟩)
      go_ret
      exact ⟨g, cap, rfl, HO.out.below hb2, HB.out.trans (hb2.mono HB.out.size)⟩
end Go.Proofs.Ytmlhecfhhhebnaa

/- list, All, Counts of the program: the walks. -/
namespace Go.Proofs.Ytmlhecfhhhebnaa
open Go.RowKit

/-- A slice of rows that grows: S holds the rows' blocks. -/
def GrowI (H : Nat) (w : World) (v : Value) (ls : List (List Nat)) (S : Nat → Prop) : Prop := RowsF S H w v ls ∧ ∀ k, S k → k < w.heap.size ∧ v.ownBlock ≠ some k
theorem GrowI.nil (H : Nat) (w : World) : GrowI H w (.slice none 0 0) [] (fun _ => False) := ⟨RowsF.nil _ _ _, fun _ h => h.elim⟩
theorem RowsF.own {S : Nat → Prop} {B : Nat} {w : World} {v : Value} {ls : List (List Nat)} (h : RowsF S B w v ls) : ∀ k, v.ownBlock = some k → B ≤ k ∧ k < w.heap.size := by
  obtain ⟨vs, ho, _⟩ := h
  exact fun k hk => World.ownsRow.lt ho k hk
theorem GrowI.grow {H : Nat} {wr w2 : World} {v u : Value} {ls : List (List Nat)} {l : List Nat} {S : Nat → Prop} (h : GrowI H wr v ls S) (hb : Below wr.heap.size wr w2) (hu : OwnI 3 wr.heap.size w2 u (toI l)) (hl : l.length ≤ 1000000) :
    GrowI H w2 v ls (fun k => S k ∨ u.ownBlock = some k) ∧ Fz (fun k => S k ∨ u.ownBlock = some k) w2 u (toI l) := by
  refine ⟨⟨(h.1.kept (S' := fun _ => True) (Sm.of_below hb) (fun _ _ => trivial) (fun _ _ => trivial)).mono fun k hk => .inl hk, fun k hk => ?_⟩, OwnI.fz hu (by rw [toI_length]; exact hl) fun k hk => .inr hk⟩
  rcases hk with hk | hk
  · exact ⟨Nat.lt_of_lt_of_le (h.2 k hk).1 hb.size, (h.2 k hk).2⟩
  · have h1 := hu.lt k hk
    refine ⟨h1.2, fun e => ?_⟩
    have h2 := h.1.own k e
    omega
theorem GrowI.app {H b : Nat} {w2 w3 w4 : World} {v v4 : Value} {ls ls4 : List (List Nat)} {S : Nat → Prop} (h : GrowI H w2 v ls S) (hb : Below w2.heap.size w2 w3) (hr : RowsF S H w4 v4 ls4) (hg : w3.grownBy w4 v.ownBlock) (ho : v4.ownBlock = v.ownBlock ∨ v4.ownBlock = some w3.heap.size) (_ : b = b) :
    GrowI H w4 v4 ls4 S := by
  refine ⟨hr, fun k hk => ⟨?_, ?_⟩⟩
  · have := (h.2 k hk).1; have := hb.size; have := hg.size; omega
  · rcases ho with ho | ho
    · rw [ho]; exact (h.2 k hk).2
    · rw [ho]; intro e
      have h1 := (h.2 k hk).1
      have h2 := hb.size
      have : w3.heap.size = k := by simpa using e
      omega
theorem map_take_succ' {α β : Type} (f : α → β) (l : List α) (k : Nat) (h : k < l.length) : (l.take (k + 1)).map f = (l.take k).map f ++ [f l[k]] := by
  rw [take_succ' l k h, List.map_append]; rfl

theorem own_form {e : TypeId} {B : Nat} {w : World} {v : Value} {xs : List Int} (h : OwnI e B w v xs) : ∃ a n c, v = .slice a n c := by
  obtain ⟨a, c, rfl⟩ := h.form
  exact ⟨a, _, c, rfl⟩
theorem wd_short {m N : Nat} {W X : List (List Nat)} (hk : Tk m N W X) {u : Nat} (hu : u < N) : (W.getD u []).length ≤ 1000000 := by
  have hul : u < W.length := by rw [hk.lw]; exact hu
  rw [getDL hul]
  have := hk.short _ (List.getElem_mem hul)
  omega

set_option maxRecDepth 20000 in
set_option maxHeartbeats 1000000 in
theorem tlist_any {K n m N : Nat} {W X : List (List Nat)} (bT : Nat) (v : Value) (us : List Nat) (w : World) (ht : TabIs K n W X w bT) (hk : Tk m N W X) (hv : Ints w v (toI us)) (hus : ∀ u ∈ us, u < N) (hlen : us.length ≤ 200) :
    Calls Try.prog 82 #[.pointer (some ⟨bT, 0, none⟩), v] w fun e w' => ∃ v', e = .returned v' ∧ RowsF (fun _ => True) w.heap.size w' v' (us.map fun u => W.getD u []) ∧ Below w.heap.size w w' := by
  have WD := Lib.hid (fun (u : Nat) (w' : World) (hb : Below w.heap.size w w') (hu : u < N) => word_any bT u w' (ht.below hb) hk hu)
  have HSH := Lib.hid (fun u (hu : u < N) => wd_short hk hu)
  obtain ⟨a, c, rfl, hlen', hcl, hc⟩ := hv.openN
  have HC := Lib.hid hc
  have HUS := Lib.hid hus
  clear ht hk hc hus hv
  go_enter Try.func82, Try.ntmps82
  go_wp2
  go_loopw [5, 10] (fun o ix wr => ∃ k : Nat, k ≤ us.length ∧ ix = .int .i64 k ∧ (∃ S, GrowI w.heap.size wr o ((us.take k).map fun u => W.getD u []) S) ∧ Below w.heap.size w wr) (fun _ i _ => us.length - (intOf i).toNat)
  case atStart => exact ⟨0, Nat.zero_le _, rfl, ⟨_, GrowI.nil _ _⟩, Below.refl _ _⟩
  case round =>
    obtain ⟨k, hkl, rfl, ⟨S, hG⟩, hb⟩ := hrel
    by_cases hlt : k < us.length
    · obtain ⟨b, off, rfl, hbl, hcell⟩ := HC.out (ne_nil_of_lt hlt)
      have hki : (k : Int) < (us.length : Int) := by omega
      have hcx := (hb.cell (p := ⟨b, off + k, none⟩) hbl).trans (hcell k hlt)
      have HU := Lib.hid (HUS.out _ (List.getElem_mem hlt))
      have HMT := Lib.hid (map_take_succ' (fun u => W.getD u []) us k hlt)
      obtain ⟨u, hu⟩ : ∃ u, us[k] = u := ⟨_, rfl⟩
      rw [hu] at hcx HU HMT
      have hle := hb.size
      have HB := Lib.hid hb
      have HG := Lib.hid hG
      have hll : ((us.take k).map fun u => W.getD u []).length ≤ 200 := by rw [List.length_map, List.length_take]; omega
      clear hu hcell hb hG
      go_wp2_with (first
        | (go_at_call 60; refine (WD.out u _ HB.out HU.out).mono ?_; rintro e w2 ⟨v2, rfl, ho2, hb2⟩; obtain ⟨a2, n2, c2, rfl⟩ := own_form ho2; have HR2 := Lib.hid (HG.out.grow hb2 ho2 (HSH.out u HU.out)); have HB2 := Lib.hid (HB.out.trans (hb2.mono HB.out.size)); have hle2 := HB2.out.size; clear ho2 hb2)
        | (at_builtin; refine wpList_appF rfl _ _ rfl (fun k => S k ∨ (Value.slice a2 n2 c2).ownBlock = some k) w.heap.size w2.heap.size u5 (.slice a2 n2 c2) ((us.take k).map fun u => W.getD u []) (W.getD u []) rfl (HR2.out.1.1.alloc _) (HR2.out.2.kept (Sm.of_below ((Below.refl _ _).alloc (Nat.le_refl _) _))) rfl (Held.new _ _ [_]) (fun k hk => (HR2.out.1.2 k hk).2) (by omega) (by simp; omega) ?_; intro v4 w4 hr4 hg4 ho4; have HG4 := Lib.hid (GrowI.app (b := 0) HR2.out.1 ((Below.refl _ _).alloc (Nat.le_refl _) _) hr4 hg4 ho4 rfl); have HB4 := Lib.hid ((HB2.out.alloc hle2 _).grown hg4 (by simp; omega) (fun j hj => (HR2.out.1.1.own j hj).1)); clear hr4 hg4 ho4))
      go_roundw
      case rel => exact ⟨k + 1, by omega, by go_num, ⟨_, by rw [HMT.out]; exact HG4.out⟩, HB4.out⟩
      case measure => simp [intOf]; omega
    · obtain rfl : k = us.length := by omega
      have hki : ¬ ((us.length : Nat) : Int) < (us.length : Int) := by omega
      rw [List.take_length] at hG
      have HR := Lib.hid (hG.1.mono (S' := fun _ => True) fun _ _ => trivial)
      have HB := Lib.hid hb
      clear hG hb
      go_wp2
      go_ret
      exact ⟨_, rfl, HR.out, HB.out⟩
end Go.Proofs.Ytmlhecfhhhebnaa

/- All, Counts of the program: the walks. -/
namespace Go.Proofs.Ytmlhecfhhhebnaa
open Go.RowKit

/-- What a function that gives words returns. -/
def RowsOut (ls : List (List Nat)) (w : World) (e : Ending) (w' : World) : Prop := ∃ v', e = .returned (.tuple #[v', .int .i64 0]) ∧ RowsF (fun _ => True) w.heap.size w' v' ls ∧ Below w.heap.size w w'
theorem range_getD (W : List (List Nat)) : (List.range W.length).map (fun u => W.getD u []) = W := by
  apply List.ext_getElem
  · simp
  · intro i h1 h2
    simp only [List.getElem_map, List.getElem_range]
    exact getDL h2

set_option maxRecDepth 20000 in
set_option maxHeartbeats 1000000 in
theorem All_no (K : Nat) (n : Int) (w : World) (hK : K < 256) (h : okI K n [] = false) :
    Calls Try.prog 52 #[grpI K n] w (WordErr w) := by
  have RD := Lib.hid (fun w' => read_no K n (.slice none 0 0) [] w' hK (args0 w') h)
  unfold grpI at *
  clear h
  go_enter Try.func52, Try.ntmps52
  go_wp2_with (go_at_call 59; refine (RD.out _).mono ?_; rintro e w1 ⟨rfl, hb1⟩)
  go_ret2
  exact ⟨rfl, below_al (Nat.le_refl _) hb1⟩

set_option maxRecDepth 20000 in
set_option maxHeartbeats 1000000 in
theorem All_yes (K n : Nat) (w : World) (hv : validB K n = true) :
    Calls Try.prog 52 #[.agg #[.int .u8 (K : Nat), .int .i64 (n : Nat)]] w (RowsOut (wordsG K n) w) := by
  have RD := Lib.hid (fun w' => read_yes K n (.slice none 0 0) [] w' hv (args0 w') rfl)
  have NB := Lib.hid (fun (bT : Nat) (w' : World) (ht : TabIs K n (wordsG K n) (nextG K n) w' bT) => numbers_any bT w' ht (tkG hv) (pairsG hv))
  have LS := Lib.hid (fun (bT : Nat) (v : Value) (w' : World) (ht : TabIs K n (wordsG K n) (nextG K n) w' bT) (hv' : Ints w' v (toI (List.range (wordsG K n).length))) => tlist_any bT v (List.range (wordsG K n).length) w' ht (tkG hv) hv' (fun u hu => List.mem_range.1 hu) (by rw [List.length_range]; have := (tkG hv).small; omega))
  have hsm : (toI (List.range (wordsG K n).length)).length ≤ 17592186044416 := by rw [toI_length, List.length_range]; have := (tkG hv).small; omega
  rw [range_getD] at LS
  clear hv
  go_enter Try.func52, Try.ntmps52
  go_wp2_with (first
    | (go_at_call 59; refine (RD.out _).mono ?_; rintro e w1 ⟨bT, v1, rfl, ht1, -, hb1⟩)
    | (go_at_call 80; refine (NB.out bT _ ht1).mono ?_; rintro e w2 ⟨g2, c2, rfl, ho2, hb2⟩)
    | (go_at_call 82; refine (LS.out bT _ _ (ht1.below hb2) (ho2.ints hsm)).mono ?_; rintro e w3 ⟨v3, rfl, hr3, hb3⟩))
  go_ret2
  have hB1 := below_al (Nat.le_refl _) hb1
  have hB2 := hB1.trans (hb2.mono hB1.size)
  exact ⟨_, rfl, hr3.base hB2.size, hB2.trans (hb3.mono hB2.size)⟩

theorem modify_set : ∀ (o : List Nat) (l : Nat) (h : l < o.length), o.modify l (· + 1) = o.set l (o[l] + 1)
  | [], _, h => by simp at h
  | _ :: _, 0, _ => rfl
  | y :: o, l + 1, h => by
    have := modify_set o l (by simpa using h)
    show y :: o.modify l (· + 1) = y :: o.set l (o[l]'(by simpa using h) + 1)
    rw [this]
theorem cntP_new {o : List Nat} {l : Nat} (h : l = o.length) : cntP o l = (o ++ [0]).set l (0 + 1) := by
  unfold cntP
  rw [if_pos h, modify_set _ _ (by simp; omega)]
  subst h
  simp
theorem cntP_old {o : List Nat} {l : Nat} (h : l < o.length) : cntP o l = o.set l (o[l] + 1) := by
  unfold cntP
  rw [if_neg (by omega), modify_set _ _ h]
theorem cnt_len (W : List (List Nat)) : ∀ k, k ≤ W.length → (cntTo W k).length ≤ k
  | 0, _ => by simp [cntTo]
  | k + 1, hk => by
    have ih := cnt_len W k (by omega)
    rw [cnt_succ (by omega)]
    unfold cntP
    rw [List.length_modify]
    split
    · simp; exact ih
    · omega
theorem cnt_at {W : List (List Nat)} (h : cntB W = true) {k : Nat} (hk : k < W.length) : lenX W k ≤ (cntTo W k).length := by
  have := List.all_eq_true.1 h k (List.mem_range.2 hk)
  simpa using this
theorem OwnI.ne_nil {e : TypeId} {B : Nat} {w : World} {v : Value} {L : List Nat} (h : OwnI e B w v (toI L)) {l : Nat} (hl : l < L.length) : ∃ g cap, v = .slice (some ⟨g, 0, none⟩) L.length cap := h.row1 (by omega)

set_option maxRecDepth 20000 in
set_option maxHeartbeats 1000000 in
theorem Counts_no (K : Nat) (n : Int) (w : World) (hK : K < 256) (h : okI K n [] = false) :
    Calls Try.prog 45 #[grpI K n] w (WordErr w) := by
  have RD := Lib.hid (fun w' => read_no K n (.slice none 0 0) [] w' hK (args0 w') h)
  unfold grpI at *
  clear h
  go_enter Try.func45, Try.ntmps45
  go_wp2_with (go_at_call 59; refine (RD.out _).mono ?_; rintro e w1 ⟨rfl, hb1⟩)
  go_ret2
  exact ⟨rfl, below_al (Nat.le_refl _) hb1⟩

set_option maxRecDepth 20000 in
set_option maxHeartbeats 2000000 in
theorem Counts_yes (K n : Nat) (w : World) (hv : validB K n = true) :
    Calls Try.prog 45 #[.agg #[.int .u8 (K : Nat), .int .i64 (n : Nat)]] w (WordOut (cntTo (wordsG K n) (wordsG K n).length) w) := by
  have RD := Lib.hid (fun w' => read_yes K n (.slice none 0 0) [] w' hv (args0 w') rfl)
  have NB := Lib.hid (fun (bT : Nat) (w' : World) (ht : TabIs K n (wordsG K n) (nextG K n) w' bT) => numbers_any bT w' ht (tkG hv) (pairsG hv))
  have LN := Lib.hid (fun (bT : Nat) (w' : World) (ht : TabIs K n (wordsG K n) (nextG K n) w' bT) (u : Nat) (hu : u < (wordsG K n).length) => length_any bT u w' ht (tkG hv) hu)
  have hN : (wordsG K n).length ≤ 120 := (tkG hv).small
  have HC := Lib.hid (cntG hv).1
  obtain ⟨W, hW⟩ : ∃ W, wordsG K n = W := ⟨_, rfl⟩
  rw [hW] at RD NB LN hN HC ⊢
  obtain ⟨N, hNe⟩ : ∃ N, W.length = N := ⟨_, rfl⟩
  have HNE := Lib.hid hNe
  rw [hNe] at NB hN LN ⊢
  clear hv hW hNe
  go_enter Try.func45, Try.ntmps45
  go_wp2_with (first
    | (go_at_call 59; refine (RD.out _).mono ?_; rintro e w1 ⟨bT, v1, rfl, ht1, -, hb1⟩; have hB1 := below_al (Nat.le_refl _) hb1)
    | (go_at_call 80; refine (NB.out bT _ ht1).mono ?_; rintro e w2 ⟨g2, c2, rfl, ho2, hb2⟩))
  have HB2 := Lib.hid (hB1.trans (hb2.mono hB1.size))
  have HT2 := Lib.hid (ht1.below hb2)
  have HO2 := Lib.hid ho2
  clear ht1 hb2 ho2 hB1 hb1
  go_loopw [7, 21] (fun o ix wr => ∃ k : Nat, k ≤ N ∧ ix = .int .i64 k ∧ OwnI 3 w2.heap.size wr o (toI (cntTo W k)) ∧ Below w2.heap.size w2 wr) (fun _ i _ => N - (intOf i).toNat)
  case atStart => exact ⟨0, Nat.zero_le _, rfl, OwnI.nil _ _ _, Below.refl _ _⟩
  case round =>
    obtain ⟨k, hk, rfl, ho, hb⟩ := hrel
    by_cases hlt : k < N
    · have hki : (k : Int) < (N : Int) := by omega
      have hcx := (HO2.out.below hb).cellN k (by rw [List.length_range]; exact hlt)
      rw [List.getElem_range] at hcx
      have hle := hb.size
      have hWk : k < W.length := by rw [HNE.out]; exact hlt
      have HCS := Lib.hid (cnt_succ hWk)
      have hcl := cnt_len W k (by omega)
      have hle2 := cnt_at HC.out hWk
      have HLE := Lib.hid (cnt_le W k (by omega))
      have HTR := Lib.hid (HT2.out.below hb)
      have HB := Lib.hid hb
      have HO := Lib.hid ho
      obtain ⟨o, hoo⟩ : ∃ o, cntTo W k = o := ⟨_, rfl⟩
      obtain ⟨l, hl⟩ : ∃ l, lenX W k = l := ⟨_, rfl⟩
      have LL := Lib.hid (fun (w' : World) (h : TabIs K n W (nextG K n) w' bT) => LN.out bT w' h k hlt)
      rw [hoo] at HCS HO HLE hcl hle2
      rw [hl] at HCS LL hle2
      obtain ⟨ao, co, hof⟩ := HO.out.form
      rw [toI_length] at hof
      subst hof
      clear hb ho hoo hl hWk
      by_cases hnew : l = o.length
      · have HN := Lib.hid (cntP_new hnew)
        have hbe : ((l : Int) == (o.length : Int)) = true := by subst hnew; simp
        have hl1 : l < (o ++ [0]).length := by simp; omega
        have hl2 : (l : Int) < ((o ++ [0]).length : Int) := by omega
        have HZ := Lib.hid (show (o ++ [0])[l] = 0 by subst hnew; simp)
        clear hnew
        go_wp2_with (first
          | (go_at_call 67; refine (LL.out _ (by first | exact HTR.out | exact HTR4.out)).mono ?_; rintro e w9 ⟨rfl, rfl⟩)
          | (at_builtin; refine wpList_app1_at rfl _ _ rfl w2.heap.size _ (toI o) ((0 : Nat) : Int) rfl (HO.out.alloc _) ⟨_, 0, none⟩ 1 rfl (cell_new1 _ _ _) (by rw [toI_length]; omega) (by simp; omega) ?_; intro v4 w4 ho4 hg4 hl4; have ho4' : OwnI 3 w2.heap.size w4 v4 (toI (o ++ [0])) := by { rw [toI_append]; exact ho4 }; obtain ⟨g4, c4, rfl⟩ := ho4'.ne_nil hl1; have HO4 := Lib.hid ho4'; have HB4 := Lib.hid ((HB.out.alloc hle _).grown hg4 (by simp; omega) (fun j hj => (HO.out.lt j hj).1)); have HTR4 := Lib.hid (HT2.out.below HB4.out); have cl4 := ho4'.cellN l hl1; rw [HZ.out] at cl4; have fr4 := ho4'.frozenN l; clear ho4 ho4' hg4 hl4))
        go_roundw
        case rel => exact ⟨k + 1, by omega, by go_num, by rw [HCS.out, HN.out]; simpa using HO4.out.storedN l (0 + 1), HB4.out.setCell (HO4.out.lt g4 rfl).1 _⟩
        case measure => simp [intOf]; omega
      · have hl1 : l < o.length := by omega
        have HN := Lib.hid (cntP_old hl1)
        have hbe : ((l : Int) == (o.length : Int)) = false := by simp; omega
        have hl2 : (l : Int) < (o.length : Int) := by omega
        have hz := HLE.out _ (List.getElem_mem hl1)
        obtain ⟨g4, c4, e4⟩ := HO.out.ne_nil hl1
        obtain ⟨e5, _, e6⟩ := Value.slice.inj e4
        subst e5
        subst e6
        have cl4 := HO.out.cellN l hl1
        have fr4 := HO.out.frozenN l
        obtain ⟨z, hzz⟩ : ∃ z, o[l] = z := ⟨_, rfl⟩
        rw [hzz] at cl4 HN hz
        clear hnew e4 hzz
        go_wp2_with (go_at_call 67; refine (LL.out _ HTR.out).mono ?_; rintro e w9 ⟨rfl, rfl⟩)
        go_roundw
        case rel => exact ⟨k + 1, by omega, by go_num, by rw [HCS.out, HN.out]; exact HO.out.storedN l (z + 1), HB.out.setCell (HO.out.lt g4 rfl).1 _⟩
        case measure => simp [intOf]; omega
    · obtain rfl : k = N := by omega
      have hki : ¬ (k : Int) < (k : Int) := by omega
      have HO := Lib.hid ho
      have HB := Lib.hid hb
      obtain ⟨ao, co, hof⟩ := HO.out.form
      subst hof
      clear ho hb
      go_wp2
      go_ret2
      exact ⟨_, rfl, HO.out.mono HB2.out.size, HB2.out.trans (HB.out.mono HB2.out.size)⟩
end Go.Proofs.Ytmlhecfhhhebnaa

/- The reference's Counts; slices.EqualFunc over rows; the law's same: the walks. -/
namespace Go.Proofs.Ytmlhecfhhhebnaa
open Go.RowKit
attribute [local go_sem] Oper.semAt_some

theorem madeCells_replicate (z : Value) (n : Nat) : madeCells #[z] n = (List.replicate n z).toArray := by
  refine Array.ext (by simp [madeCells]) fun i h1 h2 => ?_
  simp [madeCells, Nat.mod_one]
/-- `make([]int, n)`. -/
theorem make_ints (n : Nat) (hn : n ≤ 35184372088832) (w : World) : (Instr.makeSlice 24 (.int .i64 (n : Int)) (.int .i64 (n : Int))).run Try.prog w = .ok (.slice (some ⟨w.heap.size, 0, none⟩) n n) (w.alloc (.cells ((toI (List.replicate n 0)).map (Value.int .i64)).toArray 3)) := by
  rw [run_make_row' (P := Try.prog) 24 3 (.int .i64 0) 8 Try.underlying24 info3 rfl .i64 .i64 n (by omega) (by omega) w, madeCells_replicate]
  simp [toI]
theorem make_ints1 (n : Nat) (hn : n + 1 ≤ 35184372088832) (w : World) : (Instr.makeSlice 24 (.int .i64 ((n : Int) + 1)) (.int .i64 ((n : Int) + 1))).run Try.prog w = .ok (.slice (some ⟨w.heap.size, 0, none⟩) (n + 1) (n + 1)) (w.alloc (.cells ((toI (List.replicate (n + 1) 0)).map (Value.int .i64)).toArray 3)) := by
  have := make_ints (n + 1) hn w
  push_cast at this
  exact this
theorem own_zeros {B : Nat} (w : World) (n : Nat) (hB : B ≤ w.heap.size) (hm : n ≤ maxLen) : OwnI 3 B (w.alloc (.cells ((toI (List.replicate n 0)).map (Value.int .i64)).toArray 3)) (.slice (some ⟨w.heap.size, 0, none⟩) n n) (toI (List.replicate n 0)) := by
  have := own_fresh (B := B) w 3 (toI (List.replicate n 0)) hB (by simpa [toI] using hm)
  have e : (toI (List.replicate n 0)).length = n := by simp [toI]
  rw [e] at this
  exact this
theorem rcn_at {W : List (List Nat)} (h : rcnB W = true) {k : Nat} (hk : k < W.length) : lenX W k ≤ lenX W (W.length - 1) := by
  have := List.all_eq_true.1 h W[k] (List.getElem_mem hk)
  unfold lenX at this ⊢
  rw [getDL hk]
  simpa using this

set_option maxRecDepth 20000 in
set_option maxHeartbeats 2000000 in
theorem RCounts_any {m N : Nat} {W X : List (List Nat)} (v : Value) (w : World) (ht : RT W X w v) (hk : Tk m N W X) (hc : rcnB W = true) :
    Calls Try.prog 53 #[v] w fun e w' => ∃ v', e = .returned v' ∧ OwnI 3 w.heap.size w' v' (toI (rcnTo W N)) ∧ Below w.heap.size w w' := by
  have hN := hk.small
  have hpos := hk.pos
  have hlw := hk.lw
  have hr := ht
  obtain ⟨vW, vP, vX, P, rfl, hW, _, _⟩ := ht
  have HBX := Lib.hid (BoxI.made vW vP vX w)
  have RL := Lib.hid (fun (u : Nat) (hu : u < N) (w' : World) (h : RT W X w' (.agg #[vW, vP, vX])) => RLength_any (.agg #[vW, vP, vX]) u w' h hk hu)
  have HR := Lib.hid hr
  have HC := Lib.hid hc
  obtain ⟨aW, cW, eW⟩ := hW.form
  subst eW
  have hL12 : lenX W (N - 1) ≤ 12 := by
    have hul : N - 1 < W.length := by omega
    unfold lenX; rw [getDL hul]; exact hk.short _ (List.getElem_mem hul)
  have HLQ := Lib.hid (show lenX W (W.length - 1) = lenX W (N - 1) by rw [hlw])
  obtain ⟨L, hL⟩ : ∃ L, lenX W (N - 1) = L := ⟨_, rfl⟩
  rw [hL] at hL12 HLQ
  have RL1 := Lib.hid (fun (i : Int) (hi : i = (N : Int) - 1) (w' : World) (h : RT W X w' (.agg #[.slice aW W.length cW, vP, vX])) => show Calls Try.prog 29 #[.agg #[.slice aW W.length cW, vP, vX], .int .i64 i] w' fun e w'' => e = .returned (.int .i64 (L : Nat)) ∧ Below w'.heap.size w' w'' by have := RL.out (N - 1) (by omega) w' h; rw [hL] at this; rw [show i = ((N - 1 : Nat) : Int) by omega]; exact this)
  have hmk := make_ints1 L (by omega)
  have hwr : IntKind.i64.wrap ((N : Int) - 1) = (N : Int) - 1 := IntWalk.i64_in _ (by omega)
  have HNE := Lib.hid hlw
  rw [hlw] at HBX HR RL1 RL ⊢
  clear hr hk hc hW hL hlw
  go_enter Try.func53, Try.ntmps53
  go_wp2_with (go_at_call 29; refine (RL1.out _ (by omega) _ (HR.out.below HBX.out.hb)).mono ?_; rintro e w1 ⟨rfl, hb1⟩; have HB1 := Lib.hid (HBX.out.below hb1); have c01 := (HBX.out.below hb1).hh.at (i := 0) rfl; have hs1 := (HBX.out.below hb1).hh.lt)
  have HB2 := Lib.hid (HB1.out.below ((Below.refl _ w1).alloc (Nat.le_refl _) (.cells ((toI (List.replicate (L + 1) 0)).map (Value.int .i64)).toArray 3)))
  have HO2 := Lib.hid (own_zeros (B := w1.heap.size) w1 (L + 1) (Nat.le_refl _) (by unfold maxLen; omega))
  obtain ⟨w2, hw2⟩ : ∃ w2, w1.alloc (.cells ((toI (List.replicate (L + 1) 0)).map (Value.int .i64)).toArray 3) = w2 := ⟨_, rfl⟩
  have hs2 : w1.heap.size < w2.heap.size := by rw [← hw2]; simp
  rw [hw2] at HB2 HO2 ⊢
  clear hmk hwr c01 hw2
  go_loopw [16] (fun ix wr => ∃ k : Nat, k ≤ N ∧ ix = .int .i64 k ∧ OwnI 3 w1.heap.size wr (.slice (some ⟨w1.heap.size, 0, none⟩) (L + 1) (L + 1)) (toI (rcnTo W k)) ∧ Below w1.heap.size w2 wr) (fun i _ => N - (intOf i).toNat)
  case atStart => exact ⟨0, Nat.zero_le _, rfl, by rw [show rcnTo W 0 = List.replicate (L + 1) 0 by unfold rcnTo; rw [HLQ.out]; rfl]; exact HO2.out, Below.refl _ _⟩
  case round =>
    obtain ⟨k, hk, rfl, ho, hb⟩ := hrel
    by_cases hlt : k < N
    · have hki : (k : Int) < (N : Int) := by omega
      have hWk : k < W.length := by rw [HNE.out]; exact hlt
      have HCS := Lib.hid (rcn_succ hWk)
      have hl1 : lenX W k < (rcnTo W k).length := by rw [rcn_len W k (by omega)]; have := rcn_at HC.out hWk; omega
      have hlL : (rcnTo W k).length = L + 1 := by rw [rcn_len W k (by omega), HLQ.out]
      have hz := rcn_le W k (by omega) _ (List.getElem_mem hl1)
      have HMS := Lib.hid (modify_set (rcnTo W k) (lenX W k) hl1)
      have cl := ho.cellN (lenX W k) hl1
      have fr := ho.frozenN (lenX W k)
      have hh := HB2.out.hh.below hb hs1
      have c0 := hh.at (i := 0) rfl
      have c1 := hh.at (i := 1) rfl
      have c2 := hh.at (i := 2) rfl
      have hbk : Below w.heap.size w wr := HB2.out.hb.trans (hb.mono (by omega))
      have LL := Lib.hid (RL.out k hlt wr (HR.out.below hbk))
      have hl2 : ((lenX W k : Nat) : Int) < ((L : Nat) : Int) + 1 := by omega
      have HO := Lib.hid ho
      have HB := Lib.hid hb
      have hgs := ho.blockEq
      obtain ⟨o, hoo⟩ : ∃ o, rcnTo W k = o := ⟨_, rfl⟩
      obtain ⟨l, hl⟩ : ∃ l, lenX W k = l := ⟨_, rfl⟩
      rw [hoo] at HO
      simp only [hoo, hl] at HCS HMS hz cl fr LL hl2
      obtain ⟨z, hzz⟩ : ∃ z, o[l]'(by rw [← hoo, ← hl]; exact hl1) = z := ⟨_, rfl⟩
      rw [hzz] at cl HMS hz
      clear ho hb hoo hl hzz hl1 hlL hWk hh hbk
      go_wp2_with (go_at_call 29; refine LL.out.mono ?_; rintro e w9 ⟨rfl, hb9⟩; have HB9 := Lib.hid hb9; have HO9 := Lib.hid (HO.out.below hb9); have cl9 := (hb9.cell (p := ⟨w1.heap.size, l, none⟩) hgs.2).trans cl; have fr9 := (hb9.frozen (p := ⟨w1.heap.size, l, none⟩) hgs.2).trans fr; clear hb9)
      go_roundw
      case rel => exact ⟨k + 1, by omega, by go_num, by rw [HCS.out, HMS.out]; exact HO9.out.storedN l (z + 1), (HB.out.trans (HB9.out.mono (by have := hgs.2; omega))).setCell (Nat.le_refl _) _⟩
      case measure => simp [intOf]; omega
    · obtain rfl : k = N := by omega
      have hki : ¬ (k : Int) < (k : Int) := by omega
      have HO := Lib.hid ho
      have HB := Lib.hid hb
      clear ho hb
      go_wp2
      go_ret
      exact ⟨_, rfl, HO.out.mono (by omega), HB2.out.hb.trans (HB.out.mono (by omega))⟩

/-! ### rows compared -/
theorem dec_toI (a b : List Nat) : decide (toI a = toI b) = decide (a = b) := by
  by_cases h : a = b
  · subst h; simp
  · rw [decide_eq_false h, decide_eq_false (fun e => h (toI_inj e))]

set_option maxRecDepth 20000 in
set_option maxHeartbeats 2000000 in
theorem EqualF_any {S S' : Nat → Prop} {B B' : Nat} (v1 v2 : Value) (xs ys : List (List Nat)) (w : World) (h1 : RowsF S B w v1 xs) (h2 : RowsF S' B' w v2 ys) (hx : xs.length ≤ 1000000) :
    Calls Try.prog 78 #[v1, v2, .func (.func 23) #[] #[]] w fun e w' => e = .returned (.bool (decide (xs = ys))) ∧ Below w.heap.size w w' := by
  have H1 := Lib.hid (fun (w' : World) (hb : Below w.heap.size w w') => h1.kept (S' := fun _ => True) (Sm.of_below hb) (fun _ _ => trivial) (fun _ _ => trivial))
  have H2 := Lib.hid (fun (w' : World) (hb : Below w.heap.size w w') => h2.kept (S' := fun _ => True) (Sm.of_below hb) (fun _ _ => trivial) (fun _ _ => trivial))
  obtain ⟨a, c, rfl⟩ := h1.form
  obtain ⟨a', c', rfl⟩ := h2.form
  by_cases hl : xs.length = ys.length
  · have HL := Lib.hid hl
    have hle : xs.length ≤ ys.length := by omega
    have hne : ((xs.length : Int) != (ys.length : Int)) = false := by rw [hl]; simp
    clear hl h1 h2
    go_enter Try.func78, Try.ntmps78
    go_wp2
    go_loopw [17] (fun i wr => ∃ k : Nat, k ≤ xs.length ∧ i = .int .i64 k ∧ xs.take k = ys.take k ∧ Below w.heap.size w wr) (fun i _ => xs.length - (intOf i).toNat)
    case atStart => exact ⟨0, Nat.zero_le _, rfl, rfl, Below.refl _ _⟩
    case round =>
      obtain ⟨k, hk, rfl, ht, hb⟩ := hrel
      have HT := Lib.hid ht; clear ht
      by_cases hlt : k < xs.length
      · have hlt2 : k < ys.length := by omega
        have hki : (k : Int) < (xs.length : Int) := by omega
        have hki2 : (k : Int) < (ys.length : Int) := by omega
        obtain ⟨g, cap, u, e1, _, _, hc1, hf1⟩ := (H1.out wr hb).at k hlt
        obtain ⟨g2, cap2, u2, e2, _, _, hc2, hf2⟩ := (H2.out wr hb).at k hlt2
        obtain ⟨rfl, _, rfl⟩ := Value.slice.inj e1
        obtain ⟨rfl, _, rfl⟩ := Value.slice.inj e2
        have C := Lib.hid (by have := Equal_any _ _ _ _ wr hf1.ints hf2.ints; rw [dec_toI] at this; exact this)
        have HB := Lib.hid hb
        obtain ⟨ua, uc, uf, _⟩ := hf1.slice
        obtain ⟨ua2, uc2, uf2, _⟩ := hf2.slice
        subst uf
        subst uf2
        clear hf1 hf2 hb e1 e2
        by_cases hxy : xs[k] = ys[k]
        · have HXY := Lib.hid hxy
          have HD := Lib.hid (show decide (xs[k] = ys[k]) = true by simpa using hxy)
          have HTS := Lib.hid (show xs.take (k + 1) = ys.take (k + 1) by rw [take_succ' xs k hlt, take_succ' ys k hlt2, HT.out, hxy])
          clear hxy
          go_wp2_with (go_at_call 23; refine C.out.mono ?_; rintro e w2 ⟨rfl, hb2⟩; rw [HD.out])
          go_roundw
          case rel => exact ⟨k + 1, by omega, by go_num, HTS.out, HB.out.trans (hb2.mono HB.out.size)⟩
          case measure => simp [intOf]; omega
        · have HD := Lib.hid (show decide (xs[k] = ys[k]) = false by simpa using hxy)
          have HE := Lib.hid (show decide (xs = ys) = false by rw [decide_eq_false_iff_not]; intro e; subst e; exact hxy rfl)
          clear hxy
          go_wp2_with (go_at_call 23; refine C.out.mono ?_; rintro e w2 ⟨rfl, hb2⟩; rw [HD.out])
          go_ret
          exact ⟨ret_bool HE.out.symm, HB.out.trans (hb2.mono HB.out.size)⟩
      · have hki : ¬ (k : Int) < (xs.length : Int) := by omega
        have HE := Lib.hid (show decide (xs = ys) = true by
          have := HT.out
          rw [List.take_of_length_le (show xs.length ≤ k by omega), List.take_of_length_le (show ys.length ≤ k by have := HL.out; omega)] at this
          simpa using this)
        go_wp2
        go_ret
        exact ⟨ret_bool HE.out.symm, hb⟩
  · have HE := Lib.hid (show decide (xs = ys) = false by rw [decide_eq_false_iff_not]; intro e; exact hl (by rw [e]))
    have hne : ((xs.length : Int) != (ys.length : Int)) = true := by simp; omega
    clear hl h1 h2
    go_enter Try.func78, Try.ntmps78
    go_wp2
    go_ret
    exact ⟨ret_bool HE.out.symm, Below.refl _ _⟩

set_option maxRecDepth 20000 in
theorem same_any {S S' : Nat → Prop} {B B' : Nat} (v1 v2 : Value) (xs ys : List (List Nat)) (w : World) (h1 : RowsF S B w v1 xs) (h2 : RowsF S' B' w v2 ys) (hx : xs.length ≤ 1000000) :
    Calls Try.prog 43 #[v1, v2] w fun e w' => e = .returned (.bool (decide (xs = ys))) ∧ Below w.heap.size w w' := by
  have C := Lib.hid (EqualF_any v1 v2 xs ys w h1 h2 hx)
  obtain ⟨a, c, rfl⟩ := h1.form
  obtain ⟨a', c', rfl⟩ := h2.form
  clear h1 h2
  go_enter Try.func43, Try.ntmps43
  go_wp2_with (go_at_call 78; refine C.out.mono ?_; rintro e w2 ⟨rfl, hb2⟩)
  go_ret
  exact ⟨rfl, hb2⟩
end Go.Proofs.Ytmlhecfhhhebnaa
