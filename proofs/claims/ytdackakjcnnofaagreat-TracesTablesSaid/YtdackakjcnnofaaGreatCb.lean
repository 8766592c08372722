/- traces.Bouquets. -/
import Derived.Test.YtdackakjcnnofaaGreatCa
namespace Go.Proofs.YtdackakjcnnofaaGreat
open Go.RowKit
attribute [local go_sem] Oper.semAt_some

/-- The colourings that stay, summed over some elements. -/
def sumC (c d : Nat) (E : List (List Nat)) : Nat := (E.map fun p => c ^ cycN d p).sum
theorem sumC_snoc (c d : Nat) (E : List (List Nat)) (x : List Nat) : sumC c d (E ++ [x]) = sumC c d E + c ^ cycN d x := by simp [sumC]
theorem pow_le8 {c k : Nat} (hc : c ≤ 8) (hk : k ≤ 5) : c ^ k ≤ 32768 := by
  have h1 : c ^ k ≤ 8 ^ k := Nat.pow_le_pow_left hc k
  have h2 : 8 ^ k ≤ 8 ^ 5 := Nat.pow_le_pow_right (by omega) hk
  omega
theorem cycN_le (d : Nat) (x : List Nat) : cycN d x ≤ d := by
  unfold cycN
  refine Nat.le_trans List.countP_le_length (by simp)
theorem sumC_le {c d : Nat} (hc : c ≤ 8) (hd : d ≤ 5) : ∀ E : List (List Nat), sumC c d E ≤ E.length * 32768
  | [] => by simp [sumC]
  | x :: E => by
    have h := sumC_le hc hd E
    have h1 := pow_le8 hc (Nat.le_trans (cycN_le d x) hd)
    simp only [sumC, List.map_cons, List.sum_cons, List.length_cons] at h ⊢
    omega
/-- How many colourings come first in their orbit. -/
def bouN (c d : Nat) (E : List (List Nat)) : Nat := (List.range (c ^ d)).countP (firstX E (actC c d))
theorem Grp.bou {d c : Nat} {E : List (List Nat)} (h : Grp d E) (h1 : 0 < d) (hd : d ≤ 5) : sumC c d E = E.length * bouN c d E := by
  unfold sumC bouN
  rw [← (actC_on (c := c) h h1).burnside h]
  exact sum_congr fun p hp => (fix_count (h.perm p hp) h1 (cyc_ok hd (h.perm p hp)).ok).symm
section
variable {v : Value} {L : List (List Int)} {w : World} {E : List (List Nat)} {c : Int}
theorem Bouquets_no (h : Args w v L) (hq : genQ L = false) : Calls Tryz.prog 20 #[v, .int .i64 c] w fun e w' => e = .returned (.tuple #[.int .i64 0, .int .i64 2]) ∧ Below w.heap.size w w' := by
  have RD := Lib.hid (read_no h hq)
  clear h hq
  go_enter Tryz.func20, Tryz.ntmps20
  go_wp2_with (go_at_call 43; refine RD.out.mono ?_; rintro e w1 ⟨rfl, hb⟩)
  go_ret2
  exact ⟨rfl, hb⟩
theorem Bouquets_over (h : Args w v L) (hq : genQ L = true) (ho : Over (L.headD []).length (L.map natP)) (h0 : 0 ≤ c) (h8 : c ≤ 8) : Calls Tryz.prog 20 #[v, .int .i64 c] w fun e w' => e = .returned (.tuple #[.int .i64 0, .int .i64 6]) ∧ Below w.heap.size w w' := by
  have RD := Lib.hid (read_over h hq ho)
  have a1 : ¬ c < 0 := by omega
  have a2 : ¬ 8 < c := by omega
  have a3 : decide (c < 0) = false := by simp; omega
  have a4 : decide (8 < c) = false := by simp; omega
  clear h hq ho
  go_enter Tryz.func20, Tryz.ntmps20
  go_wp2_with (go_at_call 43; refine RD.out.mono ?_; rintro e w1 ⟨rfl, hb⟩)
  go_ret2
  exact ⟨rfl, hb⟩
theorem Bouquets_bad' {k : Int} (RD' : Calls Tryz.prog 43 #[v] w fun e w' => ∃ p, e = .returned (.tuple #[.pointer p, .int .i64 k]) ∧ Below w.heap.size w w') (hk : k = 6 ∨ k = 0) (hc : c < 0 ∨ 8 < c) :
    Calls Tryz.prog 20 #[v, .int .i64 c] w fun e w' => e = .returned (.tuple #[.int .i64 0, .int .i64 2]) ∧ Below w.heap.size w w' := by
  have RD := Lib.hid RD'
  clear RD'
  rcases hk with rfl | rfl
  all_goals by_cases h0 : c < 0
  all_goals try have h8 : 8 < c := by omega
  all_goals go_enter Tryz.func20, Tryz.ntmps20
  all_goals go_wp2_with (go_at_call 43; refine RD.out.mono ?_; rintro e w1 ⟨p, rfl, hb⟩)
  all_goals go_ret2
  all_goals exact ⟨rfl, hb⟩
theorem Bouquets_bad (h : Args w v L) (hc : c < 0 ∨ 8 < c) : Calls Tryz.prog 20 #[v, .int .i64 c] w fun e w' => e = .returned (.tuple #[.int .i64 0, .int .i64 2]) ∧ Below w.heap.size w w' := by
  rcases three L with hq | ⟨hq, ho⟩ | ⟨hq, E, hg⟩
  · exact Bouquets_no h hq
  · exact Bouquets_bad' ((read_over h hq ho).mono fun e w' ⟨he, hb⟩ => ⟨_, he, hb⟩) (.inl rfl) hc
  · exact Bouquets_bad' ((read_yes h hq hg).mono fun e w' ⟨bg, he, _, hb⟩ => ⟨_, he, hb⟩) (.inr rfl) hc
set_option maxRecDepth 100000 in
set_option maxHeartbeats 2000000 in
theorem Bouquets_yes {c : Nat} (h : Args w v L) (hq : genQ L = true) (hg : IsG (L.headD []).length (L.map natP) E) (hc : c ≤ 8) : Calls Tryz.prog 20 #[v, .int .i64 (c : Nat)] w fun e w' => e = .returned (.tuple #[.int .i64 (bouN c (L.headD []).length E : Nat), .int .i64 0]) ∧ Below w.heap.size w w' := by
  have RD := Lib.hid (read_yes h hq hg)
  have hp := genQ_perm hq
  have HGR := Lib.hid (hg.grp fun q hq => by obtain ⟨p, hp1, rfl⟩ := List.mem_map.1 hq; exact hp.2.2.2.2.1 p hp1)
  have hd5 := hp.2.2.2.1
  have hd1 := hp.2.2.1
  have h24 := hg.few
  obtain ⟨d, hd⟩ : ∃ d, (L.headD []).length = d := ⟨_, rfl⟩
  rw [hd] at RD HGR hd5 hd1 ⊢
  have HBO := Lib.hid (HGR.out.bou (c := c) (by omega) hd5)
  have hpos := HGR.out.pos
  obtain ⟨n, hn⟩ : ∃ n, E.length = n := ⟨_, rfl⟩
  have HN := Lib.hid hn
  rw [hn] at h24 HBO hpos
  have CY := Lib.hid (fun (x : List Nat) (hx : Perm1 d x) (bg : Nat) (W : World) (h1 : bg < W.heap.size) (h2 : W.cell? ⟨bg, 0, none⟩ = some (.int .i64 (d : Nat))) => cycles_any W hd5 hx h1 h2)
  have c1 : ¬ (c : Int) < 0 := by omega
  have c2 : ¬ (8 : Int) < (c : Int) := by omega
  have c3 : decide ((c : Int) < 0) = false := by simp
  have c4 : decide ((8 : Int) < (c : Int)) = false := by simp; omega
  clear h hq hg hp hd hn
  go_enter Tryz.func20, Tryz.ntmps20
  go_wp2_with (go_at_call 43; refine RD.out.mono ?_; rintro e w1 ⟨bg, rfl, hp, hb⟩; obtain ⟨H, S, vE, bM, vC, vO, vB, hs⟩ := hp; have hc1 := hs.box.at (i := 1) rfl; have HBX := Lib.hid hs.box; have HEL := Lib.hid hs.els; have HB := Lib.hid hb; obtain ⟨gE, cE, rfl, -, -, -⟩ := hs.els; rw [elsI_length, HN.out] at hc1 HBX HEL; clear hs hb)
  go_loopw [8, 37] (fun s ix wr => ∃ k : Nat, k ≤ n ∧ ix = .int .i64 k ∧ s = .int .i64 (sumC c d (E.take k) : Nat) ∧ Below w1.heap.size w1 wr) (fun _ ix _ => n - (intOf ix).toNat)
  case atStart => exact ⟨0, Nat.zero_le _, rfl, rfl, Below.refl _ _⟩
  case round =>
    obtain ⟨k, hk, rfl, rfl, hb1⟩ := hrel
    have HB1 := Lib.hid hb1
    have HBW := Lib.hid (HB.out.trans (hb1.mono HB.out.size))
    have hsl := sumC_le (c := c) (d := d) hc hd5 (E.take k)
    have htl : (E.take k).length ≤ 24 := by rw [List.length_take, HN.out]; omega
    clear hb1
    by_cases hlt : k < n
    · have hki : (k : Int) < (n : Int) := by omega
      have hk0 : (0 : Int) ≤ (k : Int) := by omega
      obtain ⟨x, hx⟩ : ∃ x, E[k]? = some x := ⟨_, List.getElem?_eq_getElem (by rw [HN.out]; exact hlt)⟩
      have hpx := HGR.out.perm x (List.mem_of_getElem? hx)
      have HT := Lib.hid (show sumC c d (E.take (k + 1)) = sumC c d (E.take k) + c ^ cycN d x by rw [List.take_add_one, hx]; exact sumC_snoc _ _ _ _)
      have HX5 := Lib.hid (elI_len hd5 hpx)
      have HXR := Lib.hid ((HEL.out.below HB1.out).range (elsI_get hx) HX5.out)
      have HCY := Lib.hid (fun (W : World) (hW : Below w1.heap.size w1 W) => CY.out x hpx bg W (HBX.out.below hW HBX.out.lt).lt ((HBX.out.below hW HBX.out.lt).at (i := 0) rfl))
      have hcy5 := cycN_le d x
      obtain ⟨X, hX⟩ : ∃ X, elI d x = X := ⟨_, rfl⟩
      rw [hX] at HX5 HXR HCY
      obtain ⟨m, hm⟩ : ∃ m, cycN d x = m := ⟨_, rfl⟩
      rw [hm] at HCY HT hcy5
      obtain ⟨s, hs⟩ : ∃ s, sumC c d (E.take k) = s := ⟨_, rfl⟩
      rw [hs] at hsl HT ⊢
      clear hx hpx hX hm hs
      go_wp2_with (first
        | ((with_reducible refine is_load 70 ?_); refine wpList_load_mid (by rfl) 70 _ (by rfl) gE (k * 5) (by rfl) (cs5 X) _ HXR.out Tryz.underlying70 rfl (infoLl HX5.out) ?_)
        | ((with_reducible refine is_store 70 ?_); refine wpl_store_elem (by rfl) _ _ (by rfl) wr.heap.size X zeroE HX5.out (by rfl) (by rfl) (by rfl) (Held.made rfl) ?_; intro W2 hh2 hs2 hz2; have HH2 := Lib.hid hh2; have HB2 := Lib.hid (HB1.out.trans ((show Below wr.heap.size wr W2 from hs2.below ((Below.refl _ _).alloc (Nat.le_refl _) _) (Nat.le_refl _) (by simp)).mono HB1.out.size)); clear hh2 hs2 hz2)
        | ((with_reducible refine is_load 70 ?_); refine wpl_load_elem (by rfl) _ (by rfl) wr.heap.size X HX5.out (by rfl) HH2.out ?_)
        | (go_at_call 50; refine (HCY.out _ HB2.out).mono ?_; rintro e w3 ⟨rfl, hb3⟩; have HB3 := Lib.hid (HB2.out.trans (hb3.mono HB2.out.size)); clear hb3))
      go_loopw [11, 44] (fun p jx wq => ∃ j : Nat, j ≤ m ∧ jx = .int .i64 j ∧ p = .int .i64 (c ^ j : Nat) ∧ Below w3.heap.size w3 wq) (fun _ jx _ => m - (intOf jx).toNat)
      case atStart => exact ⟨0, Nat.zero_le _, rfl, by simp, Below.refl _ _⟩
      case round =>
        obtain ⟨j, hj, rfl, rfl, hb⟩ := hrel
        have hpw := pow_le8 (c := c) (k := j) hc (by omega)
        by_cases hjl : j < m
        · have hji : (j : Int) < (m : Int) := by omega
          have HS := Lib.hid (show c ^ (j + 1) = c ^ j * c from Nat.pow_succ c j)
          obtain ⟨p, hpp⟩ : ∃ p, c ^ j = p := ⟨_, rfl⟩
          rw [hpp] at hpw HS ⊢
          have hw := IntWalk.i64_in ((p : Int) * (c : Int)) (by
            have h1 : (p : Int) * (c : Int) ≤ 32768 * 8 := Int.mul_le_mul (by omega) (by omega) (by omega) (by omega)
            have h2 : 0 ≤ (p : Int) * (c : Int) := Int.mul_nonneg (by omega) (by omega)
            omega)
          clear hpp
          go_wp2
          go_roundw
          case rel => exact ⟨j + 1, hjl, by go_num, by rw [HS.out, Int.natCast_mul], hb⟩
          case measure => simp [intOf]; omega
        · obtain rfl : j = m := by omega
          have hji : ¬ (j : Int) < (j : Int) := by omega
          obtain ⟨p, hpp⟩ : ∃ p, c ^ j = p := ⟨_, rfl⟩
          rw [hpp] at hpw HT ⊢
          clear hpp
          go_wp2
          go_roundw
          case rel => exact ⟨k + 1, hlt, by go_num, by rw [HT.out]; go_num, HB3.out.trans (hb.mono HB3.out.size)⟩
          case measure => simp [intOf]; omega
    · obtain rfl : k = n := by omega
      have hki : ¬ (k : Int) < (k : Int) := by omega
      have HFI := Lib.hid (show sumC c d (E.take k) = k * bouN c d E by rw [List.take_of_length_le (by rw [HN.out]; exact Nat.le_refl _)]; exact HBO.out)
      have hc1r := (HBX.out.below HB1.out HBX.out.lt).at (i := 1) rfl
      rw [HFI.out] at hsl ⊢
      have hdv : Int.tdiv (((k * bouN c d E : Nat)) : Int) (k : Int) = (bouN c d E : Nat) := by
        rw [← Int.ofNat_tdiv, Nat.mul_div_cancel_left _ hpos]
      have hk0 : ¬ (k : Int) = 0 := by omega
      have hk0' : ((k : Int) == 0) = false := by simp; omega
      have hk00 : ¬ k = 0 := by omega
      have hbl : bouN c d E ≤ 800000 := by
        have h1 : bouN c d E ≤ k * bouN c d E := Nat.le_mul_of_pos_left _ hpos
        omega
      obtain ⟨b, hb⟩ : ∃ b, bouN c d E = b := ⟨_, rfl⟩
      have HBB := Lib.hid hb
      rw [hb] at hdv hbl hsl ⊢
      obtain ⟨s, hs⟩ : ∃ s, k * b = s := ⟨_, rfl⟩
      rw [hs] at hdv hsl ⊢
      have hbw : IntKind.i64.wrap (b : Int) = (b : Int) := IntWalk.i64_in _ (by omega)
      clear hb hs
      go_wp2
      go_ret2
      exact ⟨by rw [HBB.out]; rfl, HBW.out⟩
end
end Go.Proofs.YtdackakjcnnofaaGreat
