/- ref.guests, ref.Guests. -/
import Derived.Test.YtlpnicfbgdfbnaaDoorGp
namespace Go.Proofs.YtlpnicfbgdfbnaaDoor
open Go.RowKit Go.Shelf
attribute [local go_sem] Oper.semAt_some

theorem bit8_0 {j r : Nat} (hj : j < 8) (hr : r < 256) (h : r.testBit j = false) : bits BinOp.and IntKind.i64 ((r : Int) / (2 : Int) ^ j) 1 = 0 := by rw [bit8_walk j hj r hr, h]; rfl
theorem bit8_1 {j r : Nat} (hj : j < 8) (hr : r < 256) (h : r.testBit j = true) : bits BinOp.and IntKind.i64 ((r : Int) / (2 : Int) ^ j) 1 = 1 := by rw [bit8_walk j hj r hr, h]; rfl

theorem tmod_nat (a b : Nat) : Int.tmod ((a : Int) + 1) (b : Int) = (((a + 1) % b : Nat) : Int) := by
  rw [show ((a : Int) + 1) = ((a + 1 : Nat) : Int) by push_cast; rfl, Int.ofNat_tmod]

set_option maxRecDepth 20000 in
set_option maxHeartbeats 2000000 in
theorem refguests_leaf (n used : Nat) (w : World) : Calls Tryd.prog 57 #[.int .i64 (n : Nat), .int .i64 (n : Nat), .int .i64 (used : Nat)] w fun e w' => e = .returned (.int .i64 ((1 : Nat) : Int)) ∧ w = w' := by
  go_enter Tryd.func57, Tryd.ntmps57
  go_wp2
  go_ret
  exact ⟨rfl, rfl⟩

set_option maxRecDepth 20000 in
set_option maxHeartbeats 4000000 in
theorem refguests_node (n d i used : Nat) (w : World) (hn2 : 2 ≤ n) (hn : n ≤ 8) (hi : i < n) (hd : d ≤ 7) (hu : used < 256)
    (ih : ∀ (used : Nat), used < 256 → Calls Tryd.prog 57 #[.int .i64 (n : Nat), .int .i64 ((i + 1 : Nat) : Int), .int .i64 (used : Nat)] w fun e w' => e = .returned (.int .i64 (gst n d (i + 1) used : Nat)) ∧ w = w') :
    Calls Tryd.prog 57 #[.int .i64 (n : Nat), .int .i64 (i : Nat), .int .i64 (used : Nat)] w fun e w' => e = .returned (.int .i64 (gst n (d + 1) i used : Nat)) ∧ w = w' := by
  have IH := Lib.hid ih
  have hbit := Lib.hid (fun j hj => freeG_bit n i used j hn hj)
  have hfin := Lib.hid (show gpre n d i used (freeG n i used) n = gst n (d + 1) i used from gpre_all n d i used _ hn (freeG_lt n i used))
  have hbd := Lib.hid (fun k (hk : k ≤ 8) => gpre_le n d i used (freeG n i used) k hk hd)
  have hne : ¬ i = n := by omega
  have hw1 : IntKind.i64.wrap ((i : Int) + 1) = (i : Int) + 1 := IntWalk.i64_in _ (by omega)
  have hn0 : ¬ n = 0 := by omega
  obtain ⟨m, hm⟩ : ∃ m, (i + 1) % n = m := ⟨_, rfl⟩
  have hmn : m < n := by rw [← hm]; exact Nat.mod_lt _ (by omega)
  have htm := tmod_nat i n
  rw [hm] at htm
  have hwm : IntKind.i64.wrap (m : Int) = (m : Int) := IntWalk.i64_in _ (by omega)
  rw [hm] at hbit
  obtain ⟨F, hF⟩ : ∃ F, freeG n i used = F := ⟨_, rfl⟩
  rw [hF] at hbit hfin hbd
  clear ih hm hF
  go_enter Tryd.func57, Tryd.ntmps57
  go_wp2
  rw [show ((i : Int) == (n : Int)) = false by simp; omega]
  go_loopw [7, 13] (fun k ix wr => ∃ j : Nat, j ≤ n ∧ ix = .int .i64 j ∧ k = .int .i64 (gpre n d i used F j : Nat) ∧ wr = w) (fun _ i _ => n - (intOf i).toNat)
  case atStart => exact ⟨0, Nat.zero_le _, rfl, rfl, rfl⟩
  case round =>
    obtain ⟨j, hj, rfl, rfl, rfl⟩ := hrel
    by_cases hlt : j < n
    · have hb := hbit.out j hlt
      have hbj := hbd.out j (by omega)
      obtain ⟨G, hG⟩ : ∃ G, gpre n d i used F j = G := ⟨_, rfl⟩
      have hsk := fun h => gpre_skip n d i used F j h
      have hsn := fun h => gpre_snoc n d i used F j h
      rw [hG] at hsk hsn hbj ⊢
      have HSK := Lib.hid hsk
      have HSN := Lib.hid hsn
      clear hG hsk hsn
      cases htj : used.testBit j with
      | true =>
        have e1 := bit8_1 (by omega) hu htj
        have HP := Lib.hid (HSK.out (by rw [hb, htj]; rfl))
        clear hb htj
        go_wp2
        go_roundw
        case rel => exact ⟨j + 1, by omega, by go_num, by rw [HP.out], trivial⟩
        case measure => simp [intOf]; omega
      | false =>
        have e1 := bit8_0 (by omega) hu htj
        rw [htj] at hb
        by_cases hji : j = i
        · have HP := Lib.hid (HSK.out (by rw [hb]; simp [hji]))
          clear hb htj
          subst hji
          go_wp2
          go_roundw
          case rel => exact ⟨j + 1, by omega, by go_num, by rw [HP.out], trivial⟩
          case measure => simp [intOf]; omega
        · by_cases hjm : j = m
          · have HP := Lib.hid (HSK.out (by rw [hb]; simp [hjm]))
            have hbi : ((j : Int) != (i : Int)) = true := by simp; omega
            clear hb htj
            subst hjm
            go_wp2
            go_roundw
            case rel => exact ⟨j + 1, by omega, by go_num, by rw [HP.out], trivial⟩
            case measure => simp [intOf]; omega
          · have HP := Lib.hid (HSN.out (by rw [hb]; simp [hji, hjm]))
            have hbi : ((j : Int) != (i : Int)) = true := by simp; omega
            have hbm : ((j : Int) != (m : Int)) = true := by simp; omega
            clear hb htj
            have hp := pow_in9 j (by omega)
            have hor := or_w8 hu (show j < 8 by omega)
            have hg := gst_le n d (i + 1) (used ||| 2 ^ j)
            have hg2 : 8 ^ d ≤ 8 ^ 7 := Nat.pow_le_pow_right (by decide) hd
            have CI := Lib.hid (IH.out (used ||| 2 ^ j) (or_lt8 hu (by omega)))
            obtain ⟨z, hz⟩ : ∃ z, gst n d (i + 1) (used ||| 2 ^ j) = z := ⟨_, rfl⟩
            rw [hz] at hg HP CI
            have hwz : IntKind.i64.wrap ((G : Int) + (z : Int)) = ((G + z : Nat) : Int) := by rw [IntWalk.i64_in _ (by omega)]; push_cast; rfl
            clear hz hg hg2
            go_wp2_with (go_at_call 57; refine CI.out.mono ?_; rintro e w2 ⟨rfl, rfl⟩)
            go_roundw
            case rel => exact ⟨j + 1, by omega, by go_num, by rw [HP.out]; go_num, trivial⟩
            case measure => simp [intOf]; omega
    · obtain rfl : j = n := by omega
      go_wp2
      go_ret
      exact ⟨by rw [hfin.out]; rfl, rfl⟩

theorem refguests_any (n : Nat) (hn2 : 2 ≤ n) (hn : n ≤ 8) : ∀ (d i used : Nat) (w : World), i + d = n → used < 256 →
    Calls Tryd.prog 57 #[.int .i64 (n : Nat), .int .i64 (i : Nat), .int .i64 (used : Nat)] w fun e w' => e = .returned (.int .i64 (gst n d i used : Nat)) ∧ w = w'
  | 0, i, used, w, h, _ => by
    obtain rfl : i = n := by omega
    exact refguests_leaf _ used w
  | d + 1, i, used, w, h, hu => refguests_node n d i used w hn2 hn (by omega) (by omega) hu fun u hu' => refguests_any n hn2 hn d (i + 1) u w (by omega) hu'

set_option maxHeartbeats 400000 in
theorem refGuests_any (n : Nat) (hn2 : 2 ≤ n) (hn : n ≤ 8) (w : World) :
    Calls Tryd.prog 27 #[.int .i64 (n : Nat)] w fun e w' => e = .returned (.int .i64 (gst n n 0 0 : Nat)) ∧ w = w' := by
  have C := Lib.hid (refguests_any n hn2 hn n 0 0 w (by omega) (by decide))
  go_enter Tryd.func27, Tryd.ntmps27
  go_wp2_with (go_at_call 57; refine C.out.mono ?_; rintro e w1 ⟨rfl, rfl⟩)
  go_ret
  exact ⟨rfl, rfl⟩
end Go.Proofs.YtlpnicfbgdfbnaaDoor
