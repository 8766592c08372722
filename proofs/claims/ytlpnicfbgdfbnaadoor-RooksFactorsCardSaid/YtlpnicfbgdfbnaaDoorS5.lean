/- S5: rooks.Factor, ref.Factor: the walks. -/
import Derived.Test.YtlpnicfbgdfbnaaDoorS4
namespace Go.Proofs.YtlpnicfbgdfbnaaDoor
open Go.RowKit Go.Shelf
attribute [local go_sem] Oper.semAt_some

/-- The falling product. -/
def fall (x : Int) : Nat → Int
  | 0 => 1
  | j + 1 => fall x j * (x - j)
/-- The sum's first terms. -/
def facS (N : List Nat) (n : Nat) (x : Int) : Nat → Int
  | 0 => 0
  | k + 1 => facS N n x k + ((N.getD k 0 : Nat) : Int) * fall x (n - k)
def facT (hs : List Nat) (x : Int) : Int := facS (numL (stairL hs) 0) hs.length x (hs.length + 1)

theorem fall_le {x : Int} (h0 : 0 ≤ x) (h1 : x ≤ 10) : ∀ j : Nat, j ≤ 10 → (fall x j).natAbs ≤ 10 ^ j
  | 0, _ => by simp [fall]
  | j + 1, h => by
    have ih := fall_le h0 h1 j (by omega)
    rw [fall, Int.natAbs_mul, Nat.pow_succ]
    exact Nat.mul_le_mul ih (by omega)
theorem term_le {x : Int} (h0 : 0 ≤ x) (h1 : x ≤ 10) (j q : Nat) (hj : j ≤ 6) (hq : q ≤ 531441) : -531441000000 ≤ (q : Int) * fall x j ∧ (q : Int) * fall x j ≤ 531441000000 := by
  have h := fall_le h0 h1 j (by omega)
  have hp : 10 ^ j ≤ 10 ^ 6 := Nat.pow_le_pow_right (by omega) hj
  have : ((q : Int) * fall x j).natAbs ≤ 531441 * 10 ^ 6 := by
    rw [Int.natAbs_mul]
    exact Nat.mul_le_mul (by simpa using hq) (Nat.le_trans h hp)
  omega
theorem facS_le {x : Int} (h0 : 0 ≤ x) (h1 : x ≤ 10) (N : List Nat) (n : Nat) (hn : n ≤ 6) (hN : ∀ k, N.getD k 0 ≤ 531441) : ∀ k : Nat, -531441000000 * (k : Int) ≤ facS N n x k ∧ facS N n x k ≤ 531441000000 * (k : Int)
  | 0 => by simp [facS]
  | k + 1 => by
    have ih := facS_le h0 h1 N n hn hN k
    have ht := term_le h0 h1 (n - k) (N.getD k 0) (by omega) (hN k)
    rw [facS]
    generalize ((N.getD k 0 : Nat) : Int) * fall x (n - k) = t at *
    push_cast
    omega
theorem numN_le (hs : List Nat) (h6 : hs.length ≤ 6) (k : Nat) : (numL (stairL hs) 0).getD k 0 ≤ 531441 := numL_lt _ _ _ (by rw [stairL_length]; exact h6)
theorem numN_len (hs : List Nat) : (numL (stairL hs) 0).length = hs.length + 1 := by rw [numL_length, stairL_length]

set_option maxRecDepth 20000 in
set_option maxHeartbeats 2000000 in
theorem FactorBad_any (v : Value) (xs : List Int) (x : Int) (w : World) (hv : Ints w v xs) (h : stairB xs = false ∨ x < 0 ∨ 10 < x) :
    Calls Tryd.prog 42 #[v, .int .i64 x] w fun e w' => e = .returned (.tuple #[.int .i64 0, .int .i64 2]) ∧ Below w.heap.size w w' := by
  have V := hvalid_any v xs w hv
  obtain ⟨a, c, rfl, hlen, hcl, hc⟩ := hv
  clear hc
  cases hb : stairB xs with
  | false =>
    rw [hb] at V
    have C := Lib.hid V
    clear V h hb
    go_enter Tryd.func42, Tryd.ntmps42
    go_wp2_with (go_at_call 61; refine C.out.mono ?_; rintro e w1 ⟨rfl, hb1⟩)
    go_ret2
    exact ⟨rfl, hb1⟩
  | true =>
    rw [hb] at V
    have C := Lib.hid V
    by_cases hx : x < 0
    · clear V h hb
      go_enter Tryd.func42, Tryd.ntmps42
      go_wp2_with (go_at_call 61; refine C.out.mono ?_; rintro e w1 ⟨rfl, hb1⟩)
      go_ret2
      exact ⟨rfl, hb1⟩
    · have hx2 : 10 < x := by rcases h with h | h | h <;> simp_all
      clear V h hb
      go_enter Tryd.func42, Tryd.ntmps42
      go_wp2_with (go_at_call 61; refine C.out.mono ?_; rintro e w1 ⟨rfl, hb1⟩)
      go_ret2
      exact ⟨rfl, hb1⟩

theorem own_row3 (hs : List Nat) {B : Nat} {w : World} {v : Value} (h : OwnI 3 B w v (toI (numL (stairL hs) 0))) : ∃ g c, v = .slice (some ⟨g, 0, none⟩) (hs.length + 1) c := h.row (numN_len hs)
theorem own_num (hs : List Nat) {B : Nat} {w : World} {g c : Nat} (h : OwnI 3 B w (.slice (some ⟨g, 0, none⟩) (hs.length + 1) c) (toI (numL (stairL hs) 0))) (k : Nat) (hk : k < hs.length + 1) : w.cell? ⟨g, k, none⟩ = some (.int .i64 (((numL (stairL hs) 0).getD k 0 : Nat) : Int)) := by
  have hl : k < (numL (stairL hs) 0).length := by rw [numN_len]; exact hk
  rw [h.cellN k hl, getD_at hl]
theorem own_numlen (hs : List Nat) : ((hs.length + 1 : Nat) : Int) = (hs.length : Int) + 1 := by simp

set_option maxRecDepth 20000 in
set_option maxHeartbeats 4000000 in
theorem Factor_any (v : Value) (hs : List Nat) (x : Int) (w : World) (hv : Ints w v (toI hs)) (h : Stp hs) (hx0 : 0 ≤ x) (hx1 : x ≤ 10) (ht : Tab w) :
    Calls Tryd.prog 42 #[v, .int .i64 x] w fun e w' => e = .returned (.tuple #[.int .i64 (facT hs x), .int .i64 0]) ∧ Below w.heap.size w w' := by
  have V := hvalid_any v (toI hs) w hv
  rw [stairB_of h] at V
  have C := Lib.hid V
  have h1 := h.pos
  have h6 := h.le
  have hb := stairL_board h
  have B := Lib.hid (fun (w1 : World) (hb : Below w.heap.size w w1) => hboard_any v hs w1 (hv.below hb) h)
  have N := Lib.hid (fun (w2 : World) (v2 : Value) (hb2 : Below w.heap.size w w2) (hi : Ints w2 v2 (toI (stairL hs))) => numbers_any (stairL hs) 0 v2 w2 hb.lt hb.le (by decide) hi (ht.below hb2))
  have HN := Lib.hid (numN_le hs h6)
  have HSL := Lib.hid (stairL_length hs)
  have HSB := Lib.hid (fun k => facS_le hx0 hx1 (numL (stairL hs) 0) hs.length h6 (numN_le hs h6) k)
  have HTE := Lib.hid (fun j q hj hq => term_le hx0 hx1 j q hj hq)
  have HFT := Lib.hid (show facT hs x = facS (numL (stairL hs) 0) hs.length x (hs.length + 1) from rfl)
  obtain ⟨a, c, rfl, hlen, hcl, hc⟩ := hv
  rw [toI_length] at *
  have hxn : ¬ x < 0 := by omega
  have hxn1 : ¬ 10 < x := by omega
  clear V hc hb h ht
  go_enter Tryd.func42, Tryd.ntmps42
  go_wp2_with (first
    | (go_at_call 61; refine C.out.mono ?_; rintro e w1 ⟨rfl, hb1⟩)
    | (go_at_call 62; refine (B.out w1 hb1).mono ?_; rintro e w2 ⟨v2, rfl, ho2, hb2⟩)
    | (go_at_call 47; refine (N.out w2 v2 (hb1.trans (hb2.mono hb1.size)) (ho2.ints (by rw [toI_length, HSL.out]; omega))).mono ?_; rintro e w3 ⟨v3, rfl, ho3, hb3⟩; obtain ⟨g3, c3, rfl⟩ := own_row3 hs ho3; have HCE := Lib.hid (own_num hs ho3); have hlenN := own_numlen hs))
  go_loop [6, 25] (fun s ix => ∃ k : Nat, k ≤ hs.length + 1 ∧ ix = .int .i64 k ∧ s = .int .i64 (facS (numL (stairL hs) 0) hs.length x k)) (fun _ i => hs.length + 1 - (intOf i).toNat)
  case atStart => exact ⟨0, Nat.zero_le _, rfl, rfl⟩
  case round =>
    obtain ⟨k, hk, rfl, rfl⟩ := hrel
    by_cases hlt : k < hs.length + 1
    · have hki : (k : Int) < (hs.length : Int) + 1 := by omega
      have c1 := HCE.out k hlt
      have hq := HN.out k
      have HS := Lib.hid (show facS (numL (stairL hs) 0) hs.length x (k + 1) = facS (numL (stairL hs) 0) hs.length x k + (((numL (stairL hs) 0).getD k 0 : Nat) : Int) * fall x (hs.length - k) from rfl)
      obtain ⟨q, hqe⟩ : ∃ q, (numL (stairL hs) 0).getD k 0 = q := ⟨_, rfl⟩
      rw [hqe] at c1 hq HS
      clear hqe
      obtain ⟨sl, sh⟩ := HSB.out k
      obtain ⟨S, hSe⟩ : ∃ S, facS (numL (stairL hs) 0) hs.length x k = S := ⟨_, rfl⟩
      rw [hSe] at sl sh HS ⊢
      clear hSe
      have hsub : IntKind.i64.wrap ((hs.length : Int) - (k : Int)) = ((hs.length - k : Nat) : Int) := by rw [IntWalk.i64_in _ (by omega)]; omega
      have hnk : ((hs.length : Int) - (k : Int)) = ((hs.length - k : Nat) : Int) := by omega
      go_wp2
      go_loop [8, 34] (fun r jx => ∃ j : Nat, j ≤ hs.length - k ∧ jx = .int .i64 j ∧ r = .int .i64 ((q : Nat) * fall x j)) (fun _ i => hs.length - k - (intOf i).toNat)
      case atStart => exact ⟨0, Nat.zero_le _, rfl, by simp [fall]⟩
      case round =>
        obtain ⟨j, hj, rfl, rfl⟩ := hrel
        by_cases hjl : j < hs.length - k
        · have hji : (j : Int) < ((hs.length - k : Nat) : Int) := by omega
          have HT := Lib.hid (show (q : Int) * fall x (j + 1) = (q : Int) * fall x j * (x - j) by rw [fall, Int.mul_assoc])
          obtain ⟨t1, t2⟩ := HTE.out j q (by omega) hq
          obtain ⟨u1, u2⟩ := HTE.out (j + 1) q (by omega) hq
          rw [HT.out] at u1 u2
          obtain ⟨R, hR⟩ : ∃ R, (q : Int) * fall x j = R := ⟨_, rfl⟩
          rw [hR] at t1 t2 u1 u2 HT ⊢
          obtain ⟨y, hy⟩ : ∃ y, x - (j : Int) = y := ⟨_, rfl⟩
          have hy1 : -10 ≤ x - (j : Int) := by omega
          have hy2 : x - (j : Int) ≤ 10 := by omega
          rw [hy] at u1 u2 HT hy1 hy2
          obtain ⟨p, hp⟩ : ∃ p, R * y = p := ⟨_, rfl⟩
          rw [hp] at u1 u2 HT
          go_wp2
          go_round
          case rel => exact ⟨j + 1, by omega, by go_num, by rw [HT.out]⟩
          case measure => simp [intOf]; omega
        · obtain rfl : j = hs.length - k := by omega
          obtain ⟨t1, t2⟩ := HTE.out (hs.length - k) q (by omega) hq
          obtain ⟨R, hR⟩ : ∃ R, (q : Int) * fall x (hs.length - k) = R := ⟨_, rfl⟩
          rw [hR] at t1 t2 HS ⊢
          clear hR
          go_wp2
          go_round
          case rel => exact ⟨k + 1, by omega, by go_num, by rw [HS.out]⟩
          case measure => simp [intOf]; omega
    · have hke : k = hs.length + 1 := by omega
      have HKE := Lib.hid hke
      have hni : ¬ (k : Int) < (hs.length : Int) + 1 := by omega
      clear hke
      go_wp2
      go_ret2
      exact ⟨by rw [HFT.out, HKE.out]; rfl, hb1.trans ((hb2.mono hb1.size).trans (hb3.mono (Nat.le_trans hb1.size hb2.size)))⟩

set_option maxRecDepth 20000 in
set_option maxHeartbeats 4000000 in
theorem RefFactor_any (v : Value) (hs : List Nat) (x : Int) (w : World) (hv : Ints w v (toI hs)) (h : Stp hs) (hx0 : 0 ≤ x) (hx1 : x ≤ 10) :
    Calls Tryd.prog 44 #[v, .int .i64 x] w fun e w' => e = .returned (.int .i64 (facT hs x)) ∧ Below w.heap.size w w' := by
  have h1 := h.pos
  have h6 := h.le
  have hb := stairL_board h
  have B := Lib.hid (refStair_any v hs w hv h)
  have N := Lib.hid (fun (w2 : World) (v2 : Value) (hi : Ints w2 v2 (toI (stairL hs))) => refRooks_any v2 (stairL hs) w2 hi hb)
  have HN := Lib.hid (numN_le hs h6)
  have HSL := Lib.hid (stairL_length hs)
  have HSB := Lib.hid (fun k => facS_le hx0 hx1 (numL (stairL hs) 0) hs.length h6 (numN_le hs h6) k)
  have HTE := Lib.hid (fun j q hj hq => term_le hx0 hx1 j q hj hq)
  have HFT := Lib.hid (show facT hs x = facS (numL (stairL hs) 0) hs.length x (hs.length + 1) from rfl)
  obtain ⟨a, c, rfl, hlen, hcl, hc⟩ := hv
  rw [toI_length] at *
  clear hc hb h
  go_enter Tryd.func44, Tryd.ntmps44
  go_wp2_with (first
    | (go_at_call 38; refine B.out.mono ?_; rintro e w2 ⟨v2, rfl, ho2, hb2⟩)
    | (go_at_call 24; refine (N.out w2 v2 (ho2.ints (by rw [toI_length, HSL.out]; omega))).mono ?_; rintro e w3 ⟨v3, rfl, ho3, hb3⟩; obtain ⟨g3, c3, rfl⟩ := own_row3 hs ho3; have HCE := Lib.hid (own_num hs ho3); have hlenN := own_numlen hs))
  go_loop [5, 13] (fun s ix => ∃ k : Nat, k ≤ hs.length + 1 ∧ ix = .int .i64 k ∧ s = .int .i64 (facS (numL (stairL hs) 0) hs.length x k)) (fun _ i => hs.length + 1 - (intOf i).toNat)
  case atStart => exact ⟨0, Nat.zero_le _, rfl, rfl⟩
  case round =>
    obtain ⟨k, hk, rfl, rfl⟩ := hrel
    by_cases hlt : k < hs.length + 1
    · have hki : (k : Int) < (hs.length : Int) + 1 := by omega
      have c1 := HCE.out k hlt
      have hq := HN.out k
      have HS := Lib.hid (show facS (numL (stairL hs) 0) hs.length x (k + 1) = facS (numL (stairL hs) 0) hs.length x k + (((numL (stairL hs) 0).getD k 0 : Nat) : Int) * fall x (hs.length - k) from rfl)
      obtain ⟨q, hqe⟩ : ∃ q, (numL (stairL hs) 0).getD k 0 = q := ⟨_, rfl⟩
      rw [hqe] at c1 hq HS
      clear hqe
      obtain ⟨sl, sh⟩ := HSB.out k
      obtain ⟨S, hSe⟩ : ∃ S, facS (numL (stairL hs) 0) hs.length x k = S := ⟨_, rfl⟩
      rw [hSe] at sl sh HS ⊢
      clear hSe
      have hsub : IntKind.i64.wrap ((hs.length : Int) - (k : Int)) = ((hs.length - k : Nat) : Int) := by rw [IntWalk.i64_in _ (by omega)]; omega
      have hnk : ((hs.length : Int) - (k : Int)) = ((hs.length - k : Nat) : Int) := by omega
      go_wp2
      go_loop [7, 22] (fun r jx => ∃ j : Nat, j ≤ hs.length - k ∧ jx = .int .i64 j ∧ r = .int .i64 ((q : Nat) * fall x j)) (fun _ i => hs.length - k - (intOf i).toNat)
      case atStart => exact ⟨0, Nat.zero_le _, rfl, by simp [fall]⟩
      case round =>
        obtain ⟨j, hj, rfl, rfl⟩ := hrel
        by_cases hjl : j < hs.length - k
        · have hji : (j : Int) < ((hs.length - k : Nat) : Int) := by omega
          have HT := Lib.hid (show (q : Int) * fall x (j + 1) = (q : Int) * fall x j * (x - j) by rw [fall, Int.mul_assoc])
          obtain ⟨t1, t2⟩ := HTE.out j q (by omega) hq
          obtain ⟨u1, u2⟩ := HTE.out (j + 1) q (by omega) hq
          rw [HT.out] at u1 u2
          obtain ⟨R, hR⟩ : ∃ R, (q : Int) * fall x j = R := ⟨_, rfl⟩
          rw [hR] at t1 t2 u1 u2 HT ⊢
          obtain ⟨y, hy⟩ : ∃ y, x - (j : Int) = y := ⟨_, rfl⟩
          have hy1 : -10 ≤ x - (j : Int) := by omega
          have hy2 : x - (j : Int) ≤ 10 := by omega
          rw [hy] at u1 u2 HT hy1 hy2
          obtain ⟨p, hp⟩ : ∃ p, R * y = p := ⟨_, rfl⟩
          rw [hp] at u1 u2 HT
          go_wp2
          go_round
          case rel => exact ⟨j + 1, by omega, by go_num, by rw [HT.out]⟩
          case measure => simp [intOf]; omega
        · obtain rfl : j = hs.length - k := by omega
          obtain ⟨t1, t2⟩ := HTE.out (hs.length - k) q (by omega) hq
          obtain ⟨R, hR⟩ : ∃ R, (q : Int) * fall x (hs.length - k) = R := ⟨_, rfl⟩
          rw [hR] at t1 t2 HS ⊢
          clear hR
          go_wp2
          go_round
          case rel => exact ⟨k + 1, by omega, by go_num, by rw [HS.out]⟩
          case measure => simp [intOf]; omega
    · have hke : k = hs.length + 1 := by omega
      have HKE := Lib.hid hke
      have hni : ¬ (k : Int) < (hs.length : Int) + 1 := by omega
      clear hke
      go_wp2
      go_ret
      exact ⟨by rw [HFT.out, HKE.out]; rfl, hb2.trans (hb3.mono hb2.size)⟩
end Go.Proofs.YtlpnicfbgdfbnaaDoor
