/- The reference's Coset: the walk. -/
import Derived.Test.YtmlhecfhhhebnaaDoorDc
import Derived.BigRegion
import Derived.Deep.DeepCutAuto
namespace Go.Proofs.YtmlhecfhhhebnaaDoor
open Go.RowKit

theorem bit_wM : ∀ f : Nat, f < 16 → ∀ s : Nat, s < 4 → bits BinOp.and IntKind.i64 ((f : Int) / 2 ^ s) 1 = if f.testBit s then 1 else 0 := by decide +kernel
theorem row_at {W X : List (List Nat)} {w : World} {vW vP vX : Value} (ht : RT W X w (.agg #[vW, vP, vX])) {u : Nat} {r : List Nat} (hu : u < X.length) (hr : X[u] = r) (h0 : 0 < r.length) :
    ∃ g cap b off rc, vX = .slice (some ⟨g, 0, none⟩) X.length cap ∧ w.cell? ⟨g, u, none⟩ = some (.slice (some ⟨b, off, none⟩) r.length rc) ∧ ∀ s (hs : s < r.length), w.cell? ⟨b, off + s, none⟩ = some (.int .i64 ((r[s] : Nat) : Int)) := by
  subst hr
  obtain ⟨vW', vP', vX', P', e', _, _, hX⟩ := ht
  obtain ⟨rfl, rfl, rfl⟩ : vW = vW' ∧ vP = vP' ∧ vX = vX' := by simpa using e'
  obtain ⟨g, cap, ra, rc, e, hgc, hrc, _, hrow⟩ := hX.cells u hu
  obtain ⟨b, off, e2, hcell⟩ := hrow h0
  subst e2
  exact ⟨g, cap, b, off, rc, e, hgc, hcell⟩

def agN : Value → Nat
  | .bool true => 1
  | _ => 0

set_option maxRecDepth 20000 in
set_option maxHeartbeats 4000000 in
theorem RCoset_any {m N : Nat} {W X : List (List Nat)} (vt : Value) (u0 M : Nat) (w : World) (ht : RT W X w vt) (hk : Tk m N W X) (hu0 : u0 < N) (hM : M < 16) (hm0 : 0 < m) :
    Calls Tryd.prog 13 #[vt, .int .i64 (u0 : Nat), .int .i64 (M : Nat)] w fun e w' => e = .returned (.int .i64 ((cosX W X m M 12 u0 : Nat) : Int)) ∧ Below w.heap.size w w' := by
  have hr0 := ht
  obtain ⟨vW, vP, vX, P, rfl, hW, _, _⟩ := ht
  have HBX := Lib.hid (BoxI.made vW vP vX w)
  have HRW := Lib.hid (fun (w' : World) (hb : Below w.heap.size w w') => hr0.below hb)
  have RL := Lib.hid (fun (w' : World) (y : Nat) (hy : y < N) (h : RT W X w' (.agg #[vW, vP, vX])) => RLength_any (.agg #[vW, vP, vX]) y w' h hk hy)
  have hN := hk.small
  have hm4 := hk.m4
  have HK := Lib.hid hk
  have HL12 := Lib.hid (show lenX W u0 ≤ 12 from by unfold lenX; rw [getDL (show u0 < W.length by rw [hk.lw]; exact hu0)]; exact hk.short _ (List.getElem_mem _))
  obtain ⟨T, hT⟩ : ∃ T, cosX W X m M 12 u0 = T := ⟨_, rfl⟩
  have HT := Lib.hid hT
  rw [hT]
  have HU0 := Lib.hid hu0
  clear hr0 hW hk hT hu0
  go_enter Tryd.func13, Tryd.ntmps13
  go_upto_region 2 with (fail)
  go_loopw [1, 7] (fun uv ag wr => ∃ u f : Nat, uv = .int .i64 (u : Nat) ∧ u < N ∧ lenX W u ≤ f ∧ cosX W X m M f u = T ∧ (ag = .bool true ∨ (ag = .bool false ∧ u = T)) ∧ BoxI w.heap.size vW vP vX w wr) (fun uv ag _ => 2 * lenX W (intOf uv).toNat + agN ag)
  case atStart => exact ⟨u0, 12, rfl, HU0.out, HL12.out, HT.out, .inl rfl, HBX.out⟩
  case round =>
    obtain ⟨u, f, rfl, hu, hf, hc, hag, hbx⟩ := hrel
    rcases hag with rfl | ⟨rfl, hut⟩
    · obtain ⟨r, hr1, hr2, hr3, hr4⟩ := HK.out.rowAt hu
      have huX : u < X.length := by rw [HK.out.lx]; exact hu
      obtain ⟨g, cap, b, off, rc, hvX, c1, c2⟩ := row_at (HRW.out _ hbx.hb) huX hr1 (by omega)
      have huXi : (u : Int) < (X.length : Int) := by omega
      have k2 := hbx.hh.at (i := 2) rfl
      rw [hvX] at k2
      have HVX := Lib.hid hvX
      have HCC := Lib.hid c2
      have HBXX := Lib.hid hbx
      have HR2 := Lib.hid hr2
      have HR3 := Lib.hid hr3
      have HR4 := Lib.hid hr4
      have HUN := Lib.hid hu
      have HF := Lib.hid hf
      have HC := Lib.hid hc
      clear hu hf hc hbx hr1 hr2 hr3 hr4 huX c2 hvX
      go_upto_region 5 with (fail)
      obtain ⟨wo, rfl⟩ : ∃ wo : World, wo = wr := ⟨_, rfl⟩
      go_loopw [1, 7, 17] (fun uv ag sx wr => uv = .int .i64 (u : Nat) ∧ ag = .bool false ∧ ∃ s : Nat, sx = .int .i64 (s : Nat) ∧ s ≤ r.length ∧ (∀ j, j < s → (M.testBit j && fallB W X u j) = false) ∧ BoxI w.heap.size vW vP vX w wr ∧ Below wo.heap.size wo wr) (fun _ _ sx _ => r.length - (intOf sx).toNat)
      case atStart => exact ⟨rfl, rfl, 0, rfl, Nat.zero_le _, fun j h => by omega, HBXX.out, Below.refl _ _⟩
      case round =>
        rename_i wr
        obtain ⟨rfl, rfl, s, rfl, hs, hno, hbx, hbo⟩ := hrel
        have HNO := Lib.hid hno
        have HBR := Lib.hid hbx
        have HBO := Lib.hid hbo
        have hr4 := HR3.out
        have hrl : r.length ≤ 4 := by omega
        clear hno hbx hbo k2 c1 huXi hr4
        by_cases hlt : s < r.length
        · have hsi : (s : Int) < (r.length : Int) := by omega
          have cy0 := HCC.out s hlt
          have cy := (HBO.out.cell (p := ⟨b, off + s, none⟩) (World.block_lt_of_cell? _ _ cy0)).trans cy0
          have hyN := HR4.out _ (List.getElem_mem hlt)
          have hst : stepX X u s = r[s] := by unfold stepX; rw [HR2.out, getDN hlt]
          have hq := bit_wM M hM s (by omega)
          obtain ⟨y, hy⟩ : ∃ y, r[s] = y := ⟨_, rfl⟩
          rw [hy] at cy hyN hst
          have hfb : fallB W X u s = decide (lenX W y < lenX W u) := by unfold fallB; rw [hst]
          have HFB := Lib.hid hfb
          have HST := Lib.hid hst
          have HLT := Lib.hid hlt
          have HYN := Lib.hid hyN
          have HRT := Lib.hid (HRW.out _ HBR.out.hb)
          have hs0 : (0 : Int) ≤ (s : Int) := by omega
          clear cy0 hy hst hfb hyN hlt
          have HSN := Lib.hid (fun (h : (M.testBit s && fallB W X u s) = false) (j : Nat) (hj : j < s + 1) => show (M.testBit j && fallB W X u j) = false by
            by_cases e : j = s
            · subst e; exact h
            · exact HNO.out j (by omega))
          cases hbit : M.testBit s with
          | false =>
            rw [hbit, if_neg (by decide)] at hq
            have HS2 := Lib.hid (HSN.out (by rw [hbit]; rfl))
            clear hbit
            go_upto_region 7 with (fail)
            go_quiet (fail)
            go_wp2
            go_roundw
            case rel => exact ⟨rfl, rfl, s + 1, by go_num, by have := HLT.out; omega, HS2.out, HBR.out.below (below_drewM (Below.refl _ _) _), below_drewM HBO.out _⟩
            case measure => have := HLT.out; simp [intOf]; omega
          | true =>
            rw [hbit, if_pos rfl] at hq
            have HBIT := Lib.hid hbit
            clear hbit
            have k0 := HBR.out.hh.at (i := 0) rfl
            have k1 := HBR.out.hh.at (i := 1) rfl
            have k2 := HBR.out.hh.at (i := 2) rfl
            by_cases hf : lenX W y < lenX W u
            · have hfi : ((lenX W y : Nat) : Int) < ((lenX W u : Nat) : Int) := by omega
              have HLO := Lib.hid (lowS_some (W := W) (X := X) (m := m) (M := M) (u := u) (s := s) (by have := HLT.out; have := HR3.out; omega) (by rw [HBIT.out, HFB.out]; simpa using hf) HNO.out)
              have HFF := Lib.hid hf
              clear hf
              go_upto_region 7 with (fail)
              go_cut [35] from 22 to 34 (fun v wq => v = .bool true ∧ Below wr.heap.size wr wq)
              case first =>
                go_region_with (first
                  | (go_at_call 31; refine (RL.out _ _ (by first | exact HYN.out | exact HUN.out) (HRT.out.below hbA)).mono ?_; rintro e wB ⟨rfl, hbB'⟩; have hbB := chainT hbA hbB')
                  | (go_at_call 31; refine (RL.out _ _ (by first | exact HYN.out | exact HUN.out) (by first | exact HRT.out | exact HRT.out.below ((Below.refl _ _).drew))).mono ?_; rintro e wA ⟨rfl, hbA'⟩; have hbA : Below wr.heap.size wr wA := (by first | exact hbA' | exact ((Below.refl _ _).drew).trans hbA'); have a0 := (HBR.out.below hbA).hh.at (i := 0) rfl; have a1 := (HBR.out.below hbA).hh.at (i := 1) rfl; have a2 := (HBR.out.below hbA).hh.at (i := 2) rfl))
                all_goals (go_wp2_with fail; go_meet)
                all_goals exact ⟨rfl, hbB⟩
              case rest =>
                obtain ⟨rfl, hbq⟩ := hcut
                obtain ⟨f', hf'⟩ : ∃ f', f = f' + 1 := ⟨f - 1, by have := HF.out; have := HFF.out; omega⟩
                have HC2 := Lib.hid (show cosX W X m M f' y = T by have := HC.out; rw [hf', cos_go HLO.out, HST.out] at this; exact this)
                have HF2 := Lib.hid (show lenX W y ≤ f' by have := HF.out; have := HFF.out; omega)
                clear hf'
                go_wp2
                go_roundw
                case rel => exact ⟨y, f', rfl, HYN.out, HF2.out, HC2.out, .inl rfl, HBR.out.below hbq⟩
                case measure => have := HFF.out; simp [intOf, agN]; omega
            · have hfi : ¬ ((lenX W y : Nat) : Int) < ((lenX W u : Nat) : Int) := by omega
              have HS2 := Lib.hid (HSN.out (by rw [HFB.out, HBIT.out]; simpa using hf))
              have HFN := Lib.hid (decide_eq_false hf)
              clear hf
              go_upto_region 7 with (fail)
              go_cut [35] from 22 to 34 (fun v wq => v = .bool false ∧ Below wr.heap.size wr wq)
              case first =>
                go_region_with (first
                  | (go_at_call 31; refine (RL.out _ _ (by first | exact HYN.out | exact HUN.out) (HRT.out.below hbA)).mono ?_; rintro e wB ⟨rfl, hbB'⟩; have hbB := chainT hbA hbB')
                  | (go_at_call 31; refine (RL.out _ _ (by first | exact HYN.out | exact HUN.out) (by first | exact HRT.out | exact HRT.out.below ((Below.refl _ _).drew))).mono ?_; rintro e wA ⟨rfl, hbA'⟩; have hbA : Below wr.heap.size wr wA := (by first | exact hbA' | exact ((Below.refl _ _).drew).trans hbA'); have a0 := (HBR.out.below hbA).hh.at (i := 0) rfl; have a1 := (HBR.out.below hbA).hh.at (i := 1) rfl; have a2 := (HBR.out.below hbA).hh.at (i := 2) rfl))
                all_goals (go_wp2_with fail; go_meet)
                all_goals first | exact ⟨rfl, hbB⟩ | exact ⟨congrArg Value.bool HFN.out, hbB⟩
              case rest =>
                obtain ⟨rfl, hbq⟩ := hcut
                go_wp2
                go_roundw
                case rel => exact ⟨rfl, rfl, s + 1, by go_num, by have := HLT.out; omega, HS2.out, HBR.out.below hbq, HBO.out.trans (hbq.mono HBO.out.size)⟩
                case measure => have := HLT.out; simp [intOf]; omega
        · obtain rfl : s = r.length := by omega
          have hsi : ¬ ((r.length : Nat) : Int) < (r.length : Int) := by omega
          have HTT := Lib.hid (show u = T by have := HC.out; rw [cos_stop (lowS_none (by rw [← HR3.out]; exact HNO.out)) f] at this; exact this)
          go_wp2
          go_roundw
          case rel => exact ⟨u, f, rfl, HUN.out, HF.out, HC.out, .inr ⟨rfl, HTT.out⟩, HBR.out⟩
          case measure => simp [intOf, agN]
    · have HBXX := Lib.hid hbx
      have HUT := Lib.hid hut
      clear hut hc hf hbx
      go_wp2
      go_ret
      exact ⟨by rw [HUT.out]; rfl, HBXX.out.hb⟩
end Go.Proofs.YtmlhecfhhhebnaaDoor
