/- Longest, Length, Falls: the walks. -/
import Derived.Test.YtmlhecfhhhebnaaPs
namespace Go.Proofs.Ytmlhecfhhhebnaa
open Go.RowKit

theorem pow_inM : ∀ j : Nat, j < 7 → IntKind.i64.wrap ((2 : Int) ^ j) = (2 : Int) ^ j := by decide +kernel
theorem pow_inM64 : ∀ j : Nat, j < 7 → wrap64 ((2 : Int) ^ j) = (2 : Int) ^ j := by decide +kernel
theorem or_wM : ∀ j : Nat, j < 4 → ∀ o : Nat, o < 16 → bits BinOp.or IntKind.i64 (o : Int) ((2 : Int) ^ j) = ((o ||| 2 ^ j : Nat) : Int) := by decide +kernel

def fallB (W X : List (List Nat)) (u s : Nat) : Bool := decide (lenX W (stepX X u s) < lenX W u)
def fallsTo (W X : List (List Nat)) (u : Nat) : Nat → Nat
  | 0 => 0
  | k + 1 => if fallB W X u k = true then fallsTo W X u k ||| 2 ^ k else fallsTo W X u k
theorem fallsTo_lt (W X : List (List Nat)) (u : Nat) : ∀ k, fallsTo W X u k < 2 ^ k
  | 0 => by simp [fallsTo]
  | k + 1 => by
    have ih := fallsTo_lt W X u k
    have hp : 2 ^ (k + 1) = 2 ^ k * 2 := Nat.pow_succ ..
    rw [fallsTo]
    split
    · exact Nat.or_lt_two_pow (by omega) (Nat.pow_lt_pow_right (by omega) (by omega))
    · omega
theorem fallsTo_16 (W X : List (List Nat)) (u k : Nat) (hk : k ≤ 4) : fallsTo W X u k < 16 :=
  Nat.lt_of_lt_of_le (fallsTo_lt W X u k) (Nat.pow_le_pow_right (n := 2) (by omega) hk)

set_option maxRecDepth 20000 in
set_option maxHeartbeats 1000000 in
theorem longest_any {K n m N : Nat} {W X : List (List Nat)} (bT : Nat) (w : World) (ht : TabIs K n W X w bT) (hk : Tk m N W X) :
    Calls Try.prog 69 #[.pointer (some ⟨bT, 0, none⟩)] w fun e w' => e = .returned (.int .i64 ((N - 1 : Nat) : Int)) ∧ w = w' := by
  have hp := hk.pos
  have hs := hk.small
  have HL := Lib.hid hk.lw
  have hWl : W.length ≤ 120 := by rw [hk.lw]; exact hs
  have hw : IntKind.i64.wrap ((W.length : Int) - 1) = ((W.length - 1 : Nat) : Int) := by rw [IntWalk.i64_in _ (by omega)]; have := hk.lw; omega
  obtain ⟨vW, vX, vM, hh, hW, _⟩ := ht
  obtain ⟨g, cap, ra, rc, e, hgc, hrc, hIn, hrow⟩ := hW.cells 0 (by rw [hk.lw]; exact hp)
  have ct := hh.at (i := 2) rfl
  subst e
  clear hh hW hrow hIn hk hgc hrc
  go_enter Try.func69, Try.ntmps69
  go_wp2
  go_ret
  exact ⟨ret_int (by rw [HL.out]), rfl⟩

set_option maxRecDepth 20000 in
set_option maxHeartbeats 1000000 in
theorem Longest_bad (K : Nat) (n : Int) (w : World) (hK : K < 256) (h : validI K n = false) :
    Calls Try.prog 34 #[grpI K n] w (WordErr w) := by
  have RD := Lib.hid (fun w' => read_bad K n (.slice none 0 0) w' hK h)
  unfold grpI at *
  clear h
  go_enter Try.func34, Try.ntmps34
  go_wp2_with (go_at_call 59; refine (RD.out _).mono ?_; rintro e w1 ⟨rfl, hb1⟩)
  go_ret2
  exact ⟨rfl, below_al (Nat.le_refl _) hb1⟩

set_option maxRecDepth 20000 in
set_option maxHeartbeats 1000000 in
theorem Longest_yes (K n : Nat) (w : World) (hv : validB K n = true) :
    Calls Try.prog 34 #[.agg #[.int .u8 (K : Nat), .int .i64 (n : Nat)]] w (WordOut ((wordsG K n).getD ((wordsG K n).length - 1) []) w) := by
  have RD := Lib.hid (fun w' => read_yes K n (.slice none 0 0) [] w' hv (args0 w') rfl)
  have LG := Lib.hid (fun (bT : Nat) (w' : World) (ht : TabIs K n (wordsG K n) (nextG K n) w' bT) => longest_any bT w' ht (tkG hv))
  have WD := Lib.hid (fun (bT : Nat) (w' : World) (ht : TabIs K n (wordsG K n) (nextG K n) w' bT) => word_any bT ((wordsG K n).length - 1) w' ht (tkG hv) (by have := (tkG hv).pos; omega))
  clear hv
  go_enter Try.func34, Try.ntmps34
  go_wp2_with (first
    | (go_at_call 59; refine (RD.out _).mono ?_; rintro e w1 ⟨bT, v1, rfl, ht1, ho1, hb1⟩)
    | (go_at_call 69; refine (LG.out bT w1 ht1).mono ?_; rintro e w2 ⟨rfl, rfl⟩)
    | (go_at_call 60; refine (WD.out bT w1 ht1).mono ?_; rintro e w2 ⟨v2, rfl, ho2, hb2⟩))
  go_ret2
  have hB := below_al (Nat.le_refl _) hb1
  exact ⟨_, rfl, ho2.mono hB.size, hB.trans (hb2.mono hB.size)⟩

/-- What a function that gives a number returns. -/
def NumOut (z : Int) (w : World) (e : Ending) (w' : World) : Prop := e = .returned (.tuple #[.int .i64 z, .int .i64 0]) ∧ Below w.heap.size w w'
def NumErr (w : World) (e : Ending) (w' : World) : Prop := e = .returned (.tuple #[.int .i64 0, .int .i64 2]) ∧ Below w.heap.size w w'

set_option maxRecDepth 20000 in
set_option maxHeartbeats 1000000 in
theorem Length_no (K : Nat) (n : Int) (v : Value) (xs : List Int) (w : World) (hK : K < 256) (hx : Ints w v xs) (h : okI K n [xs] = false) :
    Calls Try.prog 41 #[grpI K n, v] w (NumErr w) := by
  have RD := Lib.hid (fun w' v' (ha : Args w' v' [xs]) => read_no K n v' [xs] w' hK ha h)
  have HX := Lib.hid (fun o : Obj => hx.below ((Below.refl _ _).alloc (Nat.le_refl _) o))
  obtain ⟨a, c, rfl, hx1⟩ := hx
  unfold grpI at *
  clear h hx1
  go_enter Try.func41, Try.ntmps41
  go_wp2_with (go_at_call 59; refine (RD.out _ _ (args1 (HX.out _) _ (by simp))).mono ?_; rintro e w1 ⟨rfl, hb1⟩)
  go_ret2
  exact ⟨rfl, below_al2 (Nat.le_refl _) hb1⟩

set_option maxRecDepth 20000 in
set_option maxHeartbeats 1000000 in
theorem Length_yes (K n : Nat) (v : Value) (xs : List Int) (w : World) (hv : validB K n = true) (hx : Ints w v xs) (h : wordB (mirs K n) xs = true) :
    Calls Try.prog 41 #[.agg #[.int .u8 (K : Nat), .int .i64 (n : Nat)], v] w (NumOut ((lenX (wordsG K n) (ix K n xs) : Nat) : Int) w) := by
  have RD := Lib.hid (fun w' v' (ha : Args w' v' [xs]) => read_yes K n v' [xs] w' hv ha (by simpa using h))
  have HX := Lib.hid (fun o : Obj => hx.below ((Below.refl _ _).alloc (Nat.le_refl _) o))
  have WD := Lib.hid (fun (bT : Nat) (w' : World) (ht : TabIs K n (wordsG K n) (nextG K n) w' bT) => length_any bT (ix K n xs) w' ht (tkG hv) (ix_lt hv h))
  obtain ⟨a, c, rfl, hx1⟩ := hx
  clear h hx1 hv
  go_enter Try.func41, Try.ntmps41
  go_wp2_with (first
    | (go_at_call 59; refine (RD.out _ _ (args1 (HX.out _) _ (by simp))).mono ?_; rintro e w1 ⟨bT, v1, rfl, ht1, ho1, hb1⟩; obtain ⟨g1, c1, rfl, hc1⟩ := own_one ho1)
    | (go_at_call 67; refine (WD.out bT _ ht1).mono ?_; rintro e w2 ⟨rfl, rfl⟩))
  go_ret2
  exact ⟨rfl, below_al2 (Nat.le_refl _) hb1⟩

set_option maxRecDepth 20000 in
set_option maxHeartbeats 2000000 in
theorem falls_any {K n m N : Nat} {W X : List (List Nat)} (bT u : Nat) (w : World) (ht : TabIs K n W X w bT) (hk : Tk m N W X) (hu : u < N) :
    Calls Try.prog 65 #[.pointer (some ⟨bT, 0, none⟩), .int .i64 (u : Nat)] w fun e w' => e = .returned (.int .i64 ((fallsTo W X u m : Nat) : Int)) ∧ w = w' := by
  have hm4 := hk.m4
  have hN := hk.small
  have LN := Lib.hid (fun (y : Nat) (hy : y < N) => length_any bT y w ht hk hy)
  obtain ⟨vW, vX, vM, hh, _, hX⟩ := ht
  obtain ⟨r, hr1, hr2, hr3, hr4⟩ := hk.rowAt hu
  obtain ⟨g, cap, ra, rc, e, hgc, hrc, hIn, hrow⟩ := hX.cells u (by rw [hk.lx]; exact hu)
  rw [hr1] at hgc hrc hrow
  have HROW := Lib.hid hrow
  have HR4 := Lib.hid hr4
  have HST := Lib.hid (fun s => show stepX X u s = r.getD s 0 by unfold stepX; rw [hr2])
  subst e
  have ct := hh.at (i := 3) rfl
  have hxX : (u : Int) < (X.length : Int) := by rw [hk.lx]; omega
  subst hr3
  have hr120 : r.length ≤ 4 := hm4
  clear hIn hh hX hr1 hr2 hrow hr4 hk
  go_enter Try.func65, Try.ntmps65
  go_wp2
  go_loop [5, 16] (fun o ix => ∃ k : Nat, k ≤ r.length ∧ ix = .int .i64 k ∧ o = .int .i64 ((fallsTo W X u k : Nat) : Int)) (fun _ i => r.length - (intOf i).toNat)
  case atStart => exact ⟨0, Nat.zero_le _, rfl, rfl⟩
  case round =>
    obtain ⟨k, hkl, rfl, rfl⟩ := hrel
    by_cases hlt : k < r.length
    · obtain ⟨b2, off2, rfl, hcell2⟩ := HROW.out (by omega)
      have hcy := hcell2 k hlt
      have HG := Lib.hid (getDN (l := r) (i := k) hlt)
      have hyN := HR4.out _ (List.getElem_mem hlt)
      obtain ⟨y, hy⟩ : ∃ y, r[k] = y := ⟨_, rfl⟩
      rw [hy] at hcy HG hyN
      have hki : (k : Int) < (r.length : Int) := by omega
      have h16 := fallsTo_16 W X u k (by omega)
      have HFB := Lib.hid (show fallB W X u k = decide (lenX W y < lenX W u) by unfold fallB; rw [HST.out, HG.out])
      have HFT := Lib.hid (show fallsTo W X u (k + 1) = if fallB W X u k = true then fallsTo W X u k ||| 2 ^ k else fallsTo W X u k from rfl)
      have q1 := pow_inM k (by omega)
      have q2 := pow_inM64 k (by omega)
      have q3 := or_wM k (by omega) (fallsTo W X u k) h16
      obtain ⟨F, hF⟩ : ∃ F, fallsTo W X u k = F := ⟨_, rfl⟩
      rw [hF] at q3 HFT h16 ⊢
      by_cases hf : lenX W y < lenX W u
      · have hfi : ((lenX W y : Nat) : Int) < ((lenX W u : Nat) : Int) := by omega
        have HE := Lib.hid (show fallsTo W X u (k + 1) = F ||| 2 ^ k by rw [HFT.out, HFB.out, if_pos (by simpa using hf)])
        clear hy hcell2 hF hf
        go_wp2_with (go_at_call 67; refine (LN.out _ (by omega)).mono ?_; rintro e w1 ⟨rfl, rfl⟩)
        go_round
        case rel => exact ⟨k + 1, by omega, by go_num, by rw [HE.out]⟩
        case measure => simp [intOf]; omega
      · have hfi : ¬ ((lenX W y : Nat) : Int) < ((lenX W u : Nat) : Int) := by omega
        have HE := Lib.hid (show fallsTo W X u (k + 1) = F by rw [HFT.out, HFB.out, if_neg (by simpa using hf)])
        clear hy hcell2 hF hf q1 q2 q3
        go_wp2_with (go_at_call 67; refine (LN.out _ (by omega)).mono ?_; rintro e w1 ⟨rfl, rfl⟩)
        go_round
        case rel => exact ⟨k + 1, by omega, by go_num, by rw [HE.out]⟩
        case measure => simp [intOf]; omega
    · obtain rfl : k = r.length := by omega
      go_wp2
      go_ret
      exact ⟨rfl, rfl⟩

set_option maxRecDepth 20000 in
set_option maxHeartbeats 1000000 in
theorem Falls_no (K : Nat) (n : Int) (v : Value) (xs : List Int) (w : World) (hK : K < 256) (hx : Ints w v xs) (h : okI K n [xs] = false) :
    Calls Try.prog 26 #[grpI K n, v] w (NumErr w) := by
  have RD := Lib.hid (fun w' v' (ha : Args w' v' [xs]) => read_no K n v' [xs] w' hK ha h)
  have HX := Lib.hid (fun o : Obj => hx.below ((Below.refl _ _).alloc (Nat.le_refl _) o))
  obtain ⟨a, c, rfl, hx1⟩ := hx
  unfold grpI at *
  clear h hx1
  go_enter Try.func26, Try.ntmps26
  go_wp2_with (go_at_call 59; refine (RD.out _ _ (args1 (HX.out _) _ (by simp))).mono ?_; rintro e w1 ⟨rfl, hb1⟩)
  go_ret2
  exact ⟨rfl, below_al2 (Nat.le_refl _) hb1⟩

set_option maxRecDepth 20000 in
set_option maxHeartbeats 1000000 in
theorem Falls_yes (K n : Nat) (v : Value) (xs : List Int) (w : World) (hv : validB K n = true) (hx : Ints w v xs) (h : wordB (mirs K n) xs = true) :
    Calls Try.prog 26 #[.agg #[.int .u8 (K : Nat), .int .i64 (n : Nat)], v] w (NumOut ((fallsTo (wordsG K n) (nextG K n) (ix K n xs) (mirs K n) : Nat) : Int) w) := by
  have RD := Lib.hid (fun w' v' (ha : Args w' v' [xs]) => read_yes K n v' [xs] w' hv ha (by simpa using h))
  have HX := Lib.hid (fun o : Obj => hx.below ((Below.refl _ _).alloc (Nat.le_refl _) o))
  have WD := Lib.hid (fun (bT : Nat) (w' : World) (ht : TabIs K n (wordsG K n) (nextG K n) w' bT) => falls_any bT (ix K n xs) w' ht (tkG hv) (ix_lt hv h))
  obtain ⟨a, c, rfl, hx1⟩ := hx
  clear h hx1 hv
  go_enter Try.func26, Try.ntmps26
  go_wp2_with (first
    | (go_at_call 59; refine (RD.out _ _ (args1 (HX.out _) _ (by simp))).mono ?_; rintro e w1 ⟨bT, v1, rfl, ht1, ho1, hb1⟩; obtain ⟨g1, c1, rfl, hc1⟩ := own_one ho1)
    | (go_at_call 65; refine (WD.out bT _ ht1).mono ?_; rintro e w2 ⟨rfl, rfl⟩))
  go_ret2
  exact ⟨rfl, below_al2 (Nat.le_refl _) hb1⟩
end Go.Proofs.Ytmlhecfhhhebnaa
