/- The reference's Kernel, and ContainsFunc with TracesNormal's closure. -/
import Derived.Test.YtdackakjcnnofaaGreatNs
namespace Go.Proofs.YtdackakjcnnofaaGreat
open Go.RowKit
attribute [local go_sem] Oper.semAt_some

theorem closS_any {p : Nat} (u v : Value) (xs ys : List Int) (w : World) (h : CapF w p u xs) (hv : Ints w v ys) :
    Calls Tryz.prog 27 #[v, .pointer (some ⟨p, 0, none⟩)] w fun e w' => e = .returned (.bool (decide (ys = xs))) ∧ Below w.heap.size w w' := by
  have EQ := Lib.hid (Equal_any v u ys xs w hv h.ints)
  have hc := h.cell
  obtain ⟨a, c, rfl, -, -, -⟩ := h.ints
  clear h hv
  go_enter Tryz.func27, Tryz.ntmps27
  go_wp2_with (go_at_call 28; refine EQ.out.mono ?_; rintro e w2 ⟨rfl, hb⟩; have HB := Lib.hid hb; clear hb)
  go_ret
  exact ⟨rfl, HB.out⟩
set_option maxRecDepth 20000 in
set_option maxHeartbeats 1000000 in
theorem indexS_any {p : Nat} (v u : Value) (T : List (List Int)) (x : List Int) (w : World) (h1 : Args w v T) (hp : CapF w p u x) (hl : T.length ≤ 1000000) :
    Calls Tryz.prog 59 #[v, .func (.func 27) #[] #[.pointer (some ⟨p, 0, none⟩)]] w fun e w' => (∃ z : Int, e = .returned (.int .i64 z) ∧ (0 ≤ z ↔ x ∈ T)) ∧ Below w.heap.size w w' := by
  have H1 := Lib.hid (fun (w' : World) (hb : Below w.heap.size w w') => h1.below hb)
  have HP := Lib.hid (fun (w' : World) (hb : Below w.heap.size w w') => hp.below hb)
  obtain ⟨a, c, rfl⟩ := h1.form
  obtain ⟨n, hn⟩ : ∃ n, T.length = n := ⟨_, rfl⟩
  have HN := Lib.hid hn
  rw [hn] at hl ⊢
  clear h1 hp hn
  go_enter Tryz.func59, Tryz.ntmps59
  go_wp2
  go_loopw [8] (fun ix wr => ∃ k : Nat, k ≤ n ∧ ix = .int .i64 k ∧ x ∉ T.take k ∧ Below w.heap.size w wr) (fun ix _ => n - (intOf ix).toNat)
  case atStart => exact ⟨0, Nat.zero_le _, rfl, by simp, Below.refl _ _⟩
  case round =>
    obtain ⟨k, hk, rfl, hx, hb⟩ := hrel
    have HX := Lib.hid hx
    have HB := Lib.hid hb
    by_cases hlt : k < n
    · have hki : (k : Int) < (n : Int) := by omega
      have hkT : k < T.length := by rw [HN.out]; exact hlt
      obtain ⟨g, o, cap, r, e1, _, hc1, hf1⟩ := (H1.out wr hb).at k hkT
      obtain ⟨rfl, _, rfl⟩ := Value.slice.inj e1
      have C := Lib.hid (closS_any u r x T[k] wr (HP.out wr hb) hf1)
      obtain ⟨ua, uc, uf, _⟩ := hf1
      subst uf
      clear hx hb e1
      by_cases hxy : T[k] = x
      · have HD := Lib.hid (show decide (T[k] = x) = true by simpa using hxy)
        have HM := Lib.hid (show x ∈ T by rw [← hxy]; exact List.getElem_mem hkT)
        clear hxy
        go_wp2_with (go_at_call 27; refine C.out.mono ?_; rintro e w2 ⟨rfl, hb2⟩; rw [HD.out])
        go_ret
        exact ⟨⟨k, rfl, ⟨fun _ => HM.out, fun _ => by omega⟩⟩, HB.out.trans (hb2.mono HB.out.size)⟩
      · have HD := Lib.hid (show decide (T[k] = x) = false by simpa using hxy)
        have HX2 := Lib.hid (mem_take_succ hkT HX.out hxy)
        clear hxy
        go_wp2_with (go_at_call 27; refine C.out.mono ?_; rintro e w2 ⟨rfl, hb2⟩; rw [HD.out])
        go_roundw
        case rel => exact ⟨k + 1, hlt, by go_num, HX2.out, HB.out.trans (hb2.mono HB.out.size)⟩
        case measure => simp [intOf]; omega
    · obtain rfl : n = k := by omega
      have hki : ¬ (n : Int) < (n : Int) := by omega
      have HM := Lib.hid (show x ∉ T by have := HX.out; rw [List.take_of_length_le (by rw [HN.out]; exact Nat.le_refl _)] at this; exact this)
      clear hx hb
      go_wp2
      go_ret
      exact ⟨⟨-1, rfl, ⟨fun h => absurd h (by decide), fun h => absurd h HM.out⟩⟩, HB.out⟩
theorem containsS_any {p : Nat} (v u : Value) (T : List (List Int)) (x : List Int) (w : World) (h1 : Args w v T) (hp : CapF w p u x) (hl : T.length ≤ 1000000) :
    Calls Tryz.prog 26 #[v, .func (.func 27) #[] #[.pointer (some ⟨p, 0, none⟩)]] w fun e w' => e = .returned (.bool (decide (x ∈ T))) ∧ Below w.heap.size w w' := by
  have C := Lib.hid (indexS_any v u T x w h1 hp hl)
  obtain ⟨a, c, rfl⟩ := h1.form
  clear h1 hp
  go_enter Tryz.func26, Tryz.ntmps26
  go_wp2_with (go_at_call 59; refine C.out.mono ?_; rintro e w2 ⟨⟨z, rfl, hz⟩, hb2⟩; have HB := Lib.hid hb2; have HZ := Lib.hid hz; clear hb2 hz)
  go_ret
  exact ⟨ret_bool (decide_eq_decide.2 HZ.out), HB.out⟩
set_option maxRecDepth 20000 in
set_option maxHeartbeats 2000000 in
theorem RKernel_any (vf : Value) (F : List Int) (w : World) (hvf : Ints w vf F) (hn24 : F.length ≤ 24) (hn0 : 0 < F.length) :
    Calls Tryz.prog 29 #[vf] w fun e w' => ∃ u, e = .returned u ∧ OwnI 3 w.heap.size w' u (toI (kefL F)) ∧ Below w.heap.size w w' := by
  obtain ⟨af, cf, rfl, -, -, -⟩ := id hvf
  obtain ⟨bf, of, rfl, hbf, hcf⟩ := ints_cells hvf (by omega)
  obtain ⟨n, hn⟩ : ∃ n, F.length = n := ⟨_, rfl⟩
  have HN := Lib.hid hn
  rw [hn] at hcf hn24 hn0 ⊢
  have HCF := Lib.hid (fun W (hb : Below w.heap.size w W) i (hi : i < n) => (hb.cell (p := ⟨bf, of + i, none⟩) hbf).trans (hcf i hi))
  clear hvf hn hcf
  go_enter Tryz.func29, Tryz.ntmps29
  go_wp2
  go_loopw [3, 8] (fun vo ix wr => ∃ c : Nat, c ≤ n ∧ ix = .int .i64 c ∧ OwnI 3 w.heap.size wr vo (toI (kefTo F c)) ∧ Below w.heap.size w wr) (fun _ ix _ => n - (intOf ix).toNat)
  case atStart => exact ⟨0, Nat.zero_le _, rfl, OwnI.nil _ _ _, Below.refl _ _⟩
  case round =>
    obtain ⟨c, hc, rfl, ho, hb⟩ := hrel
    have HO := Lib.hid ho
    have HB1 := Lib.hid hb
    have hle := hb.size
    obtain ⟨a8, n8, c8, rfl⟩ := own_form ho
    clear ho
    by_cases hlt : c < n
    · have hci : (c : Int) < (n : Int) := by omega
      have hn0i : (0 : Int) < (n : Int) := by omega
      have hx := HCF.out wr hb c hlt
      have hy := HCF.out wr hb 0 hn0
      rw [Nat.add_zero] at hy
      have HS := Lib.hid (kefTo_succ F c)
      have HSL := Lib.hid (show (toI (kefTo F c)).length < 1000000 by rw [toI_length]; have := kefTo_len F c; omega)
      obtain ⟨x, hxe⟩ : ∃ x, F.getD c 0 = x := ⟨_, rfl⟩
      obtain ⟨y, hye⟩ : ∃ y, F.getD 0 0 = y := ⟨_, rfl⟩
      rw [hxe] at hx
      rw [hye] at hy
      have HS := Lib.hid (show kefTo F (c + 1) = kefTo F c ++ if (x == y) = true then [c] else [] by rw [HS.out, hxe, hye])
      clear hxe hye hb
      by_cases hxy : x = y
      · subst hxy
        have hbb : (x == x) = true := by simp
        have HS2 := Lib.hid (show toI (kefTo F (c + 1)) = toI (kefTo F c) ++ [(c : Int)] by rw [HS.out, if_pos hbb, toI_append]; rfl)
        go_wp2_with (at_builtin; refine wpList_app1_at rfl _ _ rfl w.heap.size _ (toI (kefTo F c)) (c : Int) rfl (HO.out.alloc _) ⟨_, 0, none⟩ 1 rfl (cell_new1 _ _ _) HSL.out (by simp; omega) ?_; intro v5 w5 ho5 hg5 hl5; have HO5 := Lib.hid ho5; have HB5 := Lib.hid ((HB1.out.alloc hle _).grown hg5 (by simp; omega) (fun j hj => (HO.out.lt j hj).1)); clear ho5 hg5 hl5)
        go_roundw
        case rel => exact ⟨c + 1, hlt, by go_num, by rw [HS2.out]; exact HO5.out, HB5.out⟩
        case measure => simp [intOf]; omega
      · have hbb : (x == y) = false := by simpa using hxy
        have HS2 := Lib.hid (show kefTo F (c + 1) = kefTo F c by rw [HS.out, hbb]; simp)
        go_wp2
        go_roundw
        case rel => exact ⟨c + 1, hlt, by go_num, by rw [HS2.out]; exact HO.out, HB1.out⟩
        case measure => simp [intOf]; omega
    · obtain rfl : n = c := by omega
      have hci : ¬ (n : Int) < (n : Int) := by omega
      have HKE := Lib.hid (show kefL F = kefTo F n by unfold kefL; rw [HN.out])
      clear hb
      go_wp2
      go_ret
      exact ⟨_, rfl, by rw [HKE.out]; exact HO.out, HB1.out⟩
end Go.Proofs.YtdackakjcnnofaaGreat
