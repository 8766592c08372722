/- The reference's Leave: the walk. -/
import Derived.Test.YtmlhecfhhhebnaaLf
namespace Go.Proofs.Ytmlhecfhhhebnaa
open Go.RowKit

theorem bit_wM : ∀ f : Nat, f < 16 → ∀ s : Nat, s < 4 → bits BinOp.and IntKind.i64 ((f : Int) / 2 ^ s) 1 = if f.testBit s then 1 else 0 := by decide +kernel
theorem rnext_at {W X : List (List Nat)} {w : World} {vW vP vX : Value} (ht : RT W X w (.agg #[vW, vP, vX])) {u s t : Nat} {r : List Nat} (hu : u < X.length) (hr : X[u] = r) (hs : s < r.length) (hy : r[s] = t) :
    ∃ g cap b off rc, vX = .slice (some ⟨g, 0, none⟩) X.length cap ∧ ∀ w', Below w.heap.size w w' → w'.cell? ⟨g, u, none⟩ = some (.slice (some ⟨b, off, none⟩) r.length rc) ∧ w'.cell? ⟨b, off + s, none⟩ = some (.int .i64 (t : Nat)) := by
  subst hr
  subst hy
  obtain ⟨vW', vP', vX', P', e', _, _, hX⟩ := ht
  obtain ⟨rfl, rfl, rfl⟩ : vW = vW' ∧ vP = vP' ∧ vX = vX' := by simpa using e'
  obtain ⟨g, cap, ra, rc, e, hgc, hrc, _, hrow⟩ := hX.cells u hu
  obtain ⟨b, off, e2, hcell⟩ := hrow (by omega)
  subst e2
  refine ⟨g, cap, b, off, rc, e, fun w' hb => ⟨?_, ?_⟩⟩
  · exact (hb.cell (p := ⟨g, u, none⟩) (World.block_lt_of_cell? w _ hgc)).trans hgc
  · exact (hb.cell (p := ⟨b, off + s, none⟩) (World.block_lt_of_cell? w _ (hcell s hs))).trans (hcell s hs)

def RFl7 (H k s iu u1 u2 tg nX cX gX lr rc bX offX b0 off0 L c : Nat) (adt : Option Addr) (bb : Bool) (vW vP : Value) : Nat → (Nat → Value) → World → Prop
  | 0, y, _ => y 25 = .agg #[vW, vP, .slice (some ⟨gX, 0, none⟩) nX cX]
  | 1, y, _ => y 26 = .agg #[vW, vP, .slice (some ⟨gX, 0, none⟩) nX cX]
  | 2, y, _ => y 27 = .slice (some ⟨b0, off0, none⟩) L c
  | 3, y, _ => y 28 = .int .i64 (k : Nat)
  | 4, y, _ => y 29 = .slice (some ⟨b0, off0, none⟩) k c
  | 5, y, _ => y 30 = .int .i64 (u1 : Nat)
  | 6, y, _ => y 31 = .slice (some ⟨b0, off0, none⟩) L c
  | 7, y, _ => y 32 = .int .i64 (k : Nat)
  | 8, y, _ => y 33 = .int .i64 ((k : Int) + 1)
  | 9, y, _ => y 34 = .slice adt (L - (k + 1)) (c - (k + 1))
  | 10, y, _ => y 35 = .int .i64 (u2 : Nat)
  | 11, y, _ => y 36 = .pointer (some ⟨H, 2, none⟩)
  | 12, y, _ => y 37 = .slice (some ⟨gX, 0, none⟩) nX cX
  | 13, y, _ => y 38 = .int .i64 (iu : Nat)
  | 14, y, _ => y 39 = .pointer (some ⟨gX, iu, none⟩)
  | 15, y, _ => y 40 = .slice (some ⟨bX, offX, none⟩) lr rc
  | 16, y, _ => y 41 = .int .i64 (s : Nat)
  | 17, y, _ => y 42 = .pointer (some ⟨bX, offX + s, none⟩)
  | 18, y, _ => y 43 = .int .i64 (tg : Nat)
  | 19, y, _ => y 44 = .bool bb
  | _, _, _ => True

set_option maxRecDepth 20000 in
set_option maxHeartbeats 4000000 in
theorem RLeave_any {m N : Nat} {W X : List (List Nat)} (vt : Value) (v : Value) (ws : List Nat) (s : Nat) (w : World) (ht : RT W X w vt) (hk : Tk m N W X) (hv : Ints w v (toI ws)) (hws : ∀ s ∈ ws, s < m) (hs : s < m) :
    Calls Try.prog 31 #[vt, v, .int .i64 (s : Nat)] w (LeaveOut (if (fallsTo W X (walkX X 0 ws) m).testBit s = true then leaveAt X ws (stepX X (walkX X 0 ws) s) else none) w) := by
  have hr0 := ht
  obtain ⟨vW, vP, vX, P, rfl, hW, _, _⟩ := ht
  have HBX := Lib.hid (BoxI.made vW vP vX w)
  have RN := Lib.hid (fun (w' : World) (u : Nat) (v' : Value) (us : List Nat) (hu : u < N) (h : RT W X w' (.agg #[vW, vP, vX])) (hv' : Ints w' v' (toI us)) (hus : ∀ s ∈ us, s < m) => RNumber_any (.agg #[vW, vP, vX]) u v' us w' h hk hv' hu hus)
  have RF := Lib.hid (fun (w' : World) (u : Nat) (hu : u < N) (h : RT W X w' (.agg #[vW, vP, vX])) => RFalls_any (.agg #[vW, vP, vX]) u w' h hk hu)
  have hi := hk.walk ws 0 hk.pos hws
  have HP := Lib.hid hk.pos
  have HVW := Lib.hid (fun (w' : World) (hb : Below w.heap.size w w') => hv.below hb)
  have HRW := Lib.hid (fun (w' : World) (hb : Below w.heap.size w w') => hr0.below hb)
  have HWS := Lib.hid hws
  have HKW := Lib.hid (fun (us : List Nat) (u : Nat) (hu : u < N) (h : ∀ s ∈ us, s < m) => hk.walk us u hu h)
  obtain ⟨iu, hie⟩ : ∃ iu, walkX X 0 ws = iu := ⟨_, rfl⟩
  have HIE := Lib.hid hie
  rw [hie] at hi ⊢
  have hF := fallsTo_16 W X iu m hk.m4
  have hm4 := hk.m4
  have hN := hk.small
  obtain ⟨F, hFe⟩ : ∃ F, fallsTo W X iu m = F := ⟨_, rfl⟩
  have HFE := Lib.hid hFe
  rw [hFe] at hF ⊢
  have hq := bit_wM F hF s (by omega)
  obtain ⟨r, hr1, hr2, hr3, hr4⟩ := hk.rowAt hi
  have huX : iu < X.length := by rw [hk.lx]; exact hi
  have HST := Lib.hid (show stepX X iu s = r.getD s 0 by unfold stepX; rw [hr2])
  have hsr : s < r.length := by omega
  have HG := Lib.hid (getDN (l := r) (i := s) hsr)
  obtain ⟨tg, hy⟩ : ∃ tg, r[s] = tg := ⟨_, rfl⟩
  have HTO := Lib.hid (show stepX X iu s = tg by rw [HST.out, HG.out, hy])
  rw [HTO.out]
  obtain ⟨gX, cX, bX, offX, rc, rfl, hcx⟩ := rnext_at hr0 huX hr1 hsr hy
  have HCX := Lib.hid hcx
  have hiX : (iu : Int) < (X.length : Int) := by omega
  have hsri : (s : Int) < (r.length : Int) := by omega
  obtain ⟨a, c, rfl, hx0, hx1, hx2⟩ := hv.openN
  have HC1 := Lib.hid hx2
  clear hr0 hW hws hie hFe hr1 hr2 hr3 hr4 hy HST HG hcx hk hv hsr huX hx2
  cases hbit : F.testBit s with
  | false =>
    rw [hbit] at hq
    rw [if_neg (by decide)] at hq ⊢
    clear hbit
    go_enter Try.func31, Try.ntmps31
    go_wp2_with (first
      | (go_at_call 28; refine (RF.out _ iu hi (HRW.out _ b1.hb)).mono ?_; rintro e w2 ⟨rfl, hb2⟩; rw [HFE.out])
      | (go_at_call 22; refine (RN.out _ 0 _ ws HP.out (HRW.out _ HBX.out.hb) (HVW.out _ HBX.out.hb) HWS.out).mono ?_; rintro e w1 ⟨rfl, hb1⟩; rw [HIE.out]; have b1 := HBX.out.below hb1; have k0 := b1.hh.at (i := 0) rfl; have k1 := b1.hh.at (i := 1) rfl; have k2 := b1.hh.at (i := 2) rfl))
    go_ret2
    exact ⟨rfl, (b1.below hb2).hb⟩
  | true =>
    rw [hbit] at hq
    rw [if_pos rfl] at hq ⊢
    clear hbit
    go_enter Try.func31, Try.ntmps31
    go_upto_region 5 with (first
      | (go_at_call 28; refine (RF.out _ iu hi (HRW.out _ b1.hb)).mono ?_; rintro e w2 ⟨rfl, hb2⟩; rw [HFE.out])
      | (go_at_call 22; refine (RN.out _ 0 _ ws HP.out (HRW.out _ HBX.out.hb) (HVW.out _ HBX.out.hb) HWS.out).mono ?_; rintro e w1 ⟨rfl, hb1⟩; rw [HIE.out]; have b1 := HBX.out.below hb1; have k0 := b1.hh.at (i := 0) rfl; have k1 := b1.hh.at (i := 1) rfl; have k2 := b1.hh.at (i := 2) rfl))
    have HB2 := Lib.hid (b1.below hb2)
    clear b1 hb1 hb2 k0 k1 k2 hq
    go_loopw [22] (fun ix wr => ∃ k : Nat, k ≤ ws.length ∧ ix = .int .i64 (k : Nat) ∧ (∀ j, j < k → delX X ws j ≠ tg) ∧ BoxI w.heap.size vW vP (.slice (some ⟨gX, 0, none⟩) X.length cX) w wr) (fun ix _ => ws.length - (intOf ix).toNat)
    case atStart => exact ⟨0, Nat.zero_le _, rfl, fun j h => by omega, HB2.out⟩
    case round =>
      obtain ⟨k, hk, rfl, hdel, hbx⟩ := hrel
      have HDEL := Lib.hid hdel
      have HBXX := Lib.hid hbx
      clear hdel hbx
      by_cases hlt : k < ws.length
      · obtain ⟨b0, off0, rfl, hbl, _⟩ := HC1.out (ne_nil_of_lt hlt)
        have hki : (k : Int) < (ws.length : Int) := by omega
        have hvr := HVW.out wr HBXX.out.hb
        have hd1 : ∀ w', Below w.heap.size w w' → Ints w' (.slice (if c = k + 1 then some ⟨b0, off0, none⟩ else some ⟨b0, off0 + (k + 1), none⟩) (ws.length - (k + 1)) (c - (k + 1))) (toI (ws.drop (k + 1))) := fun w' hb => by
          have := ints_drop (HVW.out w' hb) (k := k + 1) (by rw [toI_length]; omega)
          rw [toI_length, toI_dropN] at this
          exact this
        have ht1 : ∀ w', Below w.heap.size w w' → Ints w' (.slice (some ⟨b0, off0, none⟩) k c) (toI (ws.take k)) := fun w' hb => by
          have := ints_takeN (HVW.out w' hb) (k := k) (by rw [toI_length]; omega)
          rw [toI_take] at this
          exact this
        obtain ⟨adt, hadt⟩ : ∃ adt : Option Addr, (if c = k + 1 then some (⟨b0, off0, none⟩ : Addr) else some ⟨b0, off0 + (k + 1), none⟩) = adt := ⟨_, rfl⟩
        rw [hadt] at hd1
        have hw1 : ∀ s ∈ ws.take k, s < m := fun s hs => HWS.out s (List.mem_of_mem_take hs)
        have hw2 : ∀ s ∈ ws.drop (k + 1), s < m := fun s hs => HWS.out s (List.mem_of_mem_drop hs)
        have hu1 := HKW.out _ 0 HP.out hw1
        have HDX := Lib.hid (show delX X ws k = walkX X (walkX X 0 (ws.take k)) (ws.drop (k + 1)) from rfl)
        obtain ⟨u1, hu1e⟩ : ∃ u1, walkX X 0 (ws.take k) = u1 := ⟨_, rfl⟩
        rw [hu1e] at hu1 HDX
        have W1 := Lib.hid (fun (w' : World) (hb' : Below w.heap.size w w') => by have := RN.out w' 0 _ (ws.take k) HP.out (HRW.out w' hb') (ht1 w' hb') hw1; rw [hu1e, show (((0 : Nat) : Int)) = (0 : Int) from rfl] at this; exact this)
        obtain ⟨u2, hu2e⟩ : ∃ u2, walkX X u1 (ws.drop (k + 1)) = u2 := ⟨_, rfl⟩
        rw [hu2e] at HDX
        have W2 := Lib.hid (fun (w' : World) (hb' : Below w.heap.size w w') => by have := RN.out w' u1 _ (ws.drop (k + 1)) hu1 (HRW.out w' hb') (hd1 w' hb') hw2; rw [hu2e] at this; exact this)
        have HLT := Lib.hid hlt
        have f1 : IntKind.i64.wrap ((k : Int) + 1) = (k : Int) + 1 := IntWalk.i64_in _ (by omega)
        have f2 : (0 : Int) ≤ (k : Int) + 1 := by omega
        have f3 : ((k : Int) + 1).toNat = k + 1 := by omega
        have f4 : (k : Int) + 1 ≤ (ws.length : Int) := by omega
        have f5 : (k : Int) ≤ (c : Int) := by omega
        have f6 : (0 : Int) ≤ (k : Int) := by omega
        have hc0 : ¬ c = 0 := by omega
        clear hvr ht1 hd1 hw1 hw2 hu1e hu2e hu1 hbl
        by_cases he : u2 = tg
        · subst he
          have HF := Lib.hid (leave_some (X := X) (ws := ws) hlt HDX.out HDEL.out)
          clear hlt
          go_upto_region 7 with (fail)
          refine wp_region_flow (by kernel_rfl) [25, 26, 27, 28, 29, 30, 31, 32, 33, 34, 35, 36, 37, 38, 39, 40, 41, 42, 43, 44] (by kernel_rfl) (by kernel_rfl) (by kernel_rfl) ExtB ExtB.refl (fun _ _ _ => ExtB.trans) (RFl7 w.heap.size k s iu u1 u2 u2 X.length cX gX r.length rc bX offX b0 off0 ws.length c adt true vW vP) ?_ ?_ ?_ ?_
          · intro j y wa wb hx hv
            match j, hv with
            | 0, hv => exact hv
            | 1, hv => exact hv
            | 2, hv => exact hv
            | 3, hv => exact hv
            | 4, hv => exact hv
            | 5, hv => exact hv
            | 6, hv => exact hv
            | 7, hv => exact hv
            | 8, hv => exact hv
            | 9, hv => exact hv
            | 10, hv => exact hv
            | 11, hv => exact hv
            | 12, hv => exact hv
            | 13, hv => exact hv
            | 14, hv => exact hv
            | 15, hv => exact hv
            | 16, hv => exact hv
            | 17, hv => exact hv
            | 18, hv => exact hv
            | 19, hv => exact hv
            | _ + 20, _ => trivial
          · intro j y y' wx hj h hv
            match j, hj, h, hv with
            | 0, _, h, hv =>
              have e25 : y 25 = y' 25 := h 0 25 (.inr rfl) (by kernel_rfl)
              have hv' : RFl7 w.heap.size k s iu u1 u2 u2 X.length cX gX r.length rc bX offX b0 off0 ws.length c adt true vW vP 0 y wx := hv
              simp only [RFl7] at hv' ⊢
              rw [← e25]
              exact hv'
            | 1, _, h, hv =>
              have e26 : y 26 = y' 26 := h 1 26 (.inr rfl) (by kernel_rfl)
              have hv' : RFl7 w.heap.size k s iu u1 u2 u2 X.length cX gX r.length rc bX offX b0 off0 ws.length c adt true vW vP 1 y wx := hv
              simp only [RFl7] at hv' ⊢
              rw [← e26]
              exact hv'
            | 2, _, h, hv =>
              have e27 : y 27 = y' 27 := h 2 27 (.inr rfl) (by kernel_rfl)
              have hv' : RFl7 w.heap.size k s iu u1 u2 u2 X.length cX gX r.length rc bX offX b0 off0 ws.length c adt true vW vP 2 y wx := hv
              simp only [RFl7] at hv' ⊢
              rw [← e27]
              exact hv'
            | 3, _, h, hv =>
              have e28 : y 28 = y' 28 := h 3 28 (.inr rfl) (by kernel_rfl)
              have hv' : RFl7 w.heap.size k s iu u1 u2 u2 X.length cX gX r.length rc bX offX b0 off0 ws.length c adt true vW vP 3 y wx := hv
              simp only [RFl7] at hv' ⊢
              rw [← e28]
              exact hv'
            | 4, _, h, hv =>
              have e29 : y 29 = y' 29 := h 4 29 (.inr rfl) (by kernel_rfl)
              have hv' : RFl7 w.heap.size k s iu u1 u2 u2 X.length cX gX r.length rc bX offX b0 off0 ws.length c adt true vW vP 4 y wx := hv
              simp only [RFl7] at hv' ⊢
              rw [← e29]
              exact hv'
            | 5, _, h, hv =>
              have e30 : y 30 = y' 30 := h 5 30 (.inr rfl) (by kernel_rfl)
              have hv' : RFl7 w.heap.size k s iu u1 u2 u2 X.length cX gX r.length rc bX offX b0 off0 ws.length c adt true vW vP 5 y wx := hv
              simp only [RFl7] at hv' ⊢
              rw [← e30]
              exact hv'
            | 6, _, h, hv =>
              have e31 : y 31 = y' 31 := h 6 31 (.inr rfl) (by kernel_rfl)
              have hv' : RFl7 w.heap.size k s iu u1 u2 u2 X.length cX gX r.length rc bX offX b0 off0 ws.length c adt true vW vP 6 y wx := hv
              simp only [RFl7] at hv' ⊢
              rw [← e31]
              exact hv'
            | 7, _, h, hv =>
              have e32 : y 32 = y' 32 := h 7 32 (.inr rfl) (by kernel_rfl)
              have hv' : RFl7 w.heap.size k s iu u1 u2 u2 X.length cX gX r.length rc bX offX b0 off0 ws.length c adt true vW vP 7 y wx := hv
              simp only [RFl7] at hv' ⊢
              rw [← e32]
              exact hv'
            | 8, _, h, hv =>
              have e33 : y 33 = y' 33 := h 8 33 (.inr rfl) (by kernel_rfl)
              have hv' : RFl7 w.heap.size k s iu u1 u2 u2 X.length cX gX r.length rc bX offX b0 off0 ws.length c adt true vW vP 8 y wx := hv
              simp only [RFl7] at hv' ⊢
              rw [← e33]
              exact hv'
            | 9, _, h, hv =>
              have e34 : y 34 = y' 34 := h 9 34 (.inr rfl) (by kernel_rfl)
              have hv' : RFl7 w.heap.size k s iu u1 u2 u2 X.length cX gX r.length rc bX offX b0 off0 ws.length c adt true vW vP 9 y wx := hv
              simp only [RFl7] at hv' ⊢
              rw [← e34]
              exact hv'
            | 10, _, h, hv =>
              have e35 : y 35 = y' 35 := h 10 35 (.inr rfl) (by kernel_rfl)
              have hv' : RFl7 w.heap.size k s iu u1 u2 u2 X.length cX gX r.length rc bX offX b0 off0 ws.length c adt true vW vP 10 y wx := hv
              simp only [RFl7] at hv' ⊢
              rw [← e35]
              exact hv'
            | 11, _, h, hv =>
              have e36 : y 36 = y' 36 := h 11 36 (.inr rfl) (by kernel_rfl)
              have hv' : RFl7 w.heap.size k s iu u1 u2 u2 X.length cX gX r.length rc bX offX b0 off0 ws.length c adt true vW vP 11 y wx := hv
              simp only [RFl7] at hv' ⊢
              rw [← e36]
              exact hv'
            | 12, _, h, hv =>
              have e37 : y 37 = y' 37 := h 12 37 (.inr rfl) (by kernel_rfl)
              have hv' : RFl7 w.heap.size k s iu u1 u2 u2 X.length cX gX r.length rc bX offX b0 off0 ws.length c adt true vW vP 12 y wx := hv
              simp only [RFl7] at hv' ⊢
              rw [← e37]
              exact hv'
            | 13, _, h, hv =>
              have e38 : y 38 = y' 38 := h 13 38 (.inr rfl) (by kernel_rfl)
              have hv' : RFl7 w.heap.size k s iu u1 u2 u2 X.length cX gX r.length rc bX offX b0 off0 ws.length c adt true vW vP 13 y wx := hv
              simp only [RFl7] at hv' ⊢
              rw [← e38]
              exact hv'
            | 14, _, h, hv =>
              have e39 : y 39 = y' 39 := h 14 39 (.inr rfl) (by kernel_rfl)
              have hv' : RFl7 w.heap.size k s iu u1 u2 u2 X.length cX gX r.length rc bX offX b0 off0 ws.length c adt true vW vP 14 y wx := hv
              simp only [RFl7] at hv' ⊢
              rw [← e39]
              exact hv'
            | 15, _, h, hv =>
              have e40 : y 40 = y' 40 := h 15 40 (.inr rfl) (by kernel_rfl)
              have hv' : RFl7 w.heap.size k s iu u1 u2 u2 X.length cX gX r.length rc bX offX b0 off0 ws.length c adt true vW vP 15 y wx := hv
              simp only [RFl7] at hv' ⊢
              rw [← e40]
              exact hv'
            | 16, _, h, hv =>
              have e41 : y 41 = y' 41 := h 16 41 (.inr rfl) (by kernel_rfl)
              have hv' : RFl7 w.heap.size k s iu u1 u2 u2 X.length cX gX r.length rc bX offX b0 off0 ws.length c adt true vW vP 16 y wx := hv
              simp only [RFl7] at hv' ⊢
              rw [← e41]
              exact hv'
            | 17, _, h, hv =>
              have e42 : y 42 = y' 42 := h 17 42 (.inr rfl) (by kernel_rfl)
              have hv' : RFl7 w.heap.size k s iu u1 u2 u2 X.length cX gX r.length rc bX offX b0 off0 ws.length c adt true vW vP 17 y wx := hv
              simp only [RFl7] at hv' ⊢
              rw [← e42]
              exact hv'
            | 18, _, h, hv =>
              have e43 : y 43 = y' 43 := h 18 43 (.inr rfl) (by kernel_rfl)
              have hv' : RFl7 w.heap.size k s iu u1 u2 u2 X.length cX gX r.length rc bX offX b0 off0 ws.length c adt true vW vP 18 y wx := hv
              simp only [RFl7] at hv' ⊢
              rw [← e43]
              exact hv'
            | 19, _, h, hv =>
              have e44 : y 44 = y' 44 := h 19 44 (.inr rfl) (by kernel_rfl)
              have hv' : RFl7 w.heap.size k s iu u1 u2 u2 X.length cX gX r.length rc bX offX b0 off0 ws.length c adt true vW vP 19 y wx := hv
              simp only [RFl7] at hv' ⊢
              rw [← e44]
              exact hv'
            | j + 20, hj, _, _ => exact absurd hj (by simp)
          · intro i o ho y wx hx hd hini
            match i, ho with
            | 0, ho =>
              obtain rfl := Option.some.inj ho
              have hbq := HBXX.out.below (((Below.refl _ _).drew).trans hx)
              have c0 := hbq.hh.at (i := 0) rfl
              have c1 := hbq.hh.at (i := 1) rfl
              have c2 := hbq.hh.at (i := 2) rfl
              refine rstep_value rfl (v := .agg #[vW, vP, .slice (some ⟨gX, 0, none⟩) X.length cX]) (w' := wx) ?_ ⟨ExtB.refl _, rfl⟩
              · simp only [hole, List.foldl_cons, List.foldl_nil, List.setIfInBounds_toArray, List.set_cons_zero, List.set_cons_succ]
                go_simp
            | 1, ho =>
              obtain rfl := Option.some.inj ho
              have hbq := HBXX.out.below (((Below.refl _ _).drew).trans hx)
              have c0 := hbq.hh.at (i := 0) rfl
              have c1 := hbq.hh.at (i := 1) rfl
              have c2 := hbq.hh.at (i := 2) rfl
              refine rstep_value rfl (v := .agg #[vW, vP, .slice (some ⟨gX, 0, none⟩) X.length cX]) (w' := wx) ?_ ⟨ExtB.refl _, rfl⟩
              · simp only [hole, List.foldl_cons, List.foldl_nil, List.setIfInBounds_toArray, List.set_cons_zero, List.set_cons_succ]
                go_simp
            | 2, ho =>
              obtain rfl := Option.some.inj ho
              refine rstep_value rfl (v := .slice (some ⟨b0, off0, none⟩) ws.length c) (w' := wx) ?_ ⟨ExtB.refl _, rfl⟩
              · simp only [hole, List.foldl_cons, List.foldl_nil, List.setIfInBounds_toArray, List.set_cons_zero, List.set_cons_succ]
                go_simp
            | 3, ho =>
              obtain rfl := Option.some.inj ho
              refine rstep_value rfl (v := .int .i64 (k : Nat)) (w' := wx) ?_ ⟨ExtB.refl _, rfl⟩
              · simp only [hole, List.foldl_cons, List.foldl_nil, List.setIfInBounds_toArray, List.set_cons_zero, List.set_cons_succ]
                go_simp
            | 4, ho =>
              obtain rfl := Option.some.inj ho
              have e27 : y 27 = .slice (some ⟨b0, off0, none⟩) ws.length c := hd 2 (by kernel_rfl) (by decide)
              have e28 : y 28 = .int .i64 (k : Nat) := hd 3 (by kernel_rfl) (by decide)
              refine rstep_value rfl (v := .slice (some ⟨b0, off0, none⟩) k c) (w' := wx) ?_ ⟨ExtB.refl _, rfl⟩
              · simp only [hole, List.foldl_cons, List.foldl_nil, List.setIfInBounds_toArray, List.set_cons_zero, List.set_cons_succ]
                go_simp
            | 5, ho =>
              obtain rfl := Option.some.inj ho
              have e26 : y 26 = .agg #[vW, vP, .slice (some ⟨gX, 0, none⟩) X.length cX] := hd 1 (by kernel_rfl) (by decide)
              have e29 : y 29 = .slice (some ⟨b0, off0, none⟩) k c := hd 4 (by kernel_rfl) (by decide)
              have hbq := HBXX.out.below (((Below.refl _ _).drew).trans hx)
              refine rstep_call rfl (f := 22) (args := #[.agg #[vW, vP, .slice (some ⟨gX, 0, none⟩) X.length cX], .int .i64 0, .slice (some ⟨b0, off0, none⟩) k c]) (w' := wx) ?_ (W1.out wx hbq.hb) ?_
              · simp only [hole, List.foldl_cons, List.foldl_nil, List.setIfInBounds_toArray, List.set_cons_zero, List.set_cons_succ]
                go_simp
              · rintro e w'' ⟨rfl, hb⟩
                exact ⟨_, rfl, hb, rfl⟩
            | 6, ho =>
              obtain rfl := Option.some.inj ho
              refine rstep_value rfl (v := .slice (some ⟨b0, off0, none⟩) ws.length c) (w' := wx) ?_ ⟨ExtB.refl _, rfl⟩
              · simp only [hole, List.foldl_cons, List.foldl_nil, List.setIfInBounds_toArray, List.set_cons_zero, List.set_cons_succ]
                go_simp
            | 7, ho =>
              obtain rfl := Option.some.inj ho
              refine rstep_value rfl (v := .int .i64 (k : Nat)) (w' := wx) ?_ ⟨ExtB.refl _, rfl⟩
              · simp only [hole, List.foldl_cons, List.foldl_nil, List.setIfInBounds_toArray, List.set_cons_zero, List.set_cons_succ]
                go_simp
            | 8, ho =>
              obtain rfl := Option.some.inj ho
              have e32 : y 32 = .int .i64 (k : Nat) := hd 7 (by kernel_rfl) (by decide)
              refine rstep_value rfl (v := .int .i64 ((k : Int) + 1)) (w' := wx) ?_ ⟨ExtB.refl _, rfl⟩
              · simp only [hole, List.foldl_cons, List.foldl_nil, List.setIfInBounds_toArray, List.set_cons_zero, List.set_cons_succ]
                go_simp
            | 9, ho =>
              obtain rfl := Option.some.inj ho
              have e31 : y 31 = .slice (some ⟨b0, off0, none⟩) ws.length c := hd 6 (by kernel_rfl) (by decide)
              have e33 : y 33 = .int .i64 ((k : Int) + 1) := hd 8 (by kernel_rfl) (by decide)
              refine rstep_value rfl (v := .slice adt (ws.length - (k + 1)) (c - (k + 1))) (w' := wx) ?_ ⟨ExtB.refl _, rfl⟩
              · simp only [hole, List.foldl_cons, List.foldl_nil, List.setIfInBounds_toArray, List.set_cons_zero, List.set_cons_succ]
                go_simp
            | 10, ho =>
              obtain rfl := Option.some.inj ho
              have e25 : y 25 = .agg #[vW, vP, .slice (some ⟨gX, 0, none⟩) X.length cX] := hd 0 (by kernel_rfl) (by decide)
              have e30 : y 30 = .int .i64 (u1 : Nat) := hd 5 (by kernel_rfl) (by decide)
              have e34 : y 34 = .slice adt (ws.length - (k + 1)) (c - (k + 1)) := hd 9 (by kernel_rfl) (by decide)
              have hbq := HBXX.out.below (((Below.refl _ _).drew).trans hx)
              refine rstep_call rfl (f := 22) (args := #[.agg #[vW, vP, .slice (some ⟨gX, 0, none⟩) X.length cX], .int .i64 (u1 : Nat), .slice adt (ws.length - (k + 1)) (c - (k + 1))]) (w' := wx) ?_ (W2.out wx hbq.hb) ?_
              · simp only [hole, List.foldl_cons, List.foldl_nil, List.setIfInBounds_toArray, List.set_cons_zero, List.set_cons_succ]
                go_simp
              · rintro e w'' ⟨rfl, hb⟩
                exact ⟨_, rfl, hb, rfl⟩
            | 11, ho =>
              obtain rfl := Option.some.inj ho
              refine rstep_value rfl (v := .pointer (some ⟨w.heap.size, 2, none⟩)) (w' := wx) ?_ ⟨ExtB.refl _, rfl⟩
              · simp only [hole, List.foldl_cons, List.foldl_nil, List.setIfInBounds_toArray, List.set_cons_zero, List.set_cons_succ]
                go_simp
            | 12, ho =>
              obtain rfl := Option.some.inj ho
              have e36 : y 36 = .pointer (some ⟨w.heap.size, 2, none⟩) := hd 11 (by kernel_rfl) (by decide)
              have hbq := HBXX.out.below (((Below.refl _ _).drew).trans hx)
              have c0 := hbq.hh.at (i := 0) rfl
              have c1 := hbq.hh.at (i := 1) rfl
              have c2 := hbq.hh.at (i := 2) rfl
              refine rstep_value rfl (v := .slice (some ⟨gX, 0, none⟩) X.length cX) (w' := wx) ?_ ⟨ExtB.refl _, rfl⟩
              · simp only [hole, List.foldl_cons, List.foldl_nil, List.setIfInBounds_toArray, List.set_cons_zero, List.set_cons_succ]
                go_simp
            | 13, ho =>
              obtain rfl := Option.some.inj ho
              refine rstep_value rfl (v := .int .i64 (iu : Nat)) (w' := wx) ?_ ⟨ExtB.refl _, rfl⟩
              · simp only [hole, List.foldl_cons, List.foldl_nil, List.setIfInBounds_toArray, List.set_cons_zero, List.set_cons_succ]
                go_simp
            | 14, ho =>
              obtain rfl := Option.some.inj ho
              have e37 : y 37 = .slice (some ⟨gX, 0, none⟩) X.length cX := hd 12 (by kernel_rfl) (by decide)
              have e38 : y 38 = .int .i64 (iu : Nat) := hd 13 (by kernel_rfl) (by decide)
              refine rstep_value rfl (v := .pointer (some ⟨gX, iu, none⟩)) (w' := wx) ?_ ⟨ExtB.refl _, rfl⟩
              · simp only [hole, List.foldl_cons, List.foldl_nil, List.setIfInBounds_toArray, List.set_cons_zero, List.set_cons_succ]
                go_simp
            | 15, ho =>
              obtain rfl := Option.some.inj ho
              have e39 : y 39 = .pointer (some ⟨gX, iu, none⟩) := hd 14 (by kernel_rfl) (by decide)
              have hbq := HBXX.out.below (((Below.refl _ _).drew).trans hx)
              obtain ⟨c5, c6⟩ := HCX.out wx hbq.hb
              refine rstep_value rfl (v := .slice (some ⟨bX, offX, none⟩) r.length rc) (w' := wx) ?_ ⟨ExtB.refl _, rfl⟩
              · simp only [hole, List.foldl_cons, List.foldl_nil, List.setIfInBounds_toArray, List.set_cons_zero, List.set_cons_succ]
                go_simp
            | 16, ho =>
              obtain rfl := Option.some.inj ho
              refine rstep_value rfl (v := .int .i64 (s : Nat)) (w' := wx) ?_ ⟨ExtB.refl _, rfl⟩
              · simp only [hole, List.foldl_cons, List.foldl_nil, List.setIfInBounds_toArray, List.set_cons_zero, List.set_cons_succ]
                go_simp
            | 17, ho =>
              obtain rfl := Option.some.inj ho
              have e40 : y 40 = .slice (some ⟨bX, offX, none⟩) r.length rc := hd 15 (by kernel_rfl) (by decide)
              have e41 : y 41 = .int .i64 (s : Nat) := hd 16 (by kernel_rfl) (by decide)
              refine rstep_value rfl (v := .pointer (some ⟨bX, offX + s, none⟩)) (w' := wx) ?_ ⟨ExtB.refl _, rfl⟩
              · simp only [hole, List.foldl_cons, List.foldl_nil, List.setIfInBounds_toArray, List.set_cons_zero, List.set_cons_succ]
                go_simp
            | 18, ho =>
              obtain rfl := Option.some.inj ho
              have e42 : y 42 = .pointer (some ⟨bX, offX + s, none⟩) := hd 17 (by kernel_rfl) (by decide)
              have hbq := HBXX.out.below (((Below.refl _ _).drew).trans hx)
              obtain ⟨c5, c6⟩ := HCX.out wx hbq.hb
              refine rstep_value rfl (v := .int .i64 (u2 : Nat)) (w' := wx) ?_ ⟨ExtB.refl _, rfl⟩
              · simp only [hole, List.foldl_cons, List.foldl_nil, List.setIfInBounds_toArray, List.set_cons_zero, List.set_cons_succ]
                go_simp
            | 19, ho =>
              obtain rfl := Option.some.inj ho
              have e35 : y 35 = .int .i64 (u2 : Nat) := hd 10 (by kernel_rfl) (by decide)
              have e43 : y 43 = .int .i64 (u2 : Nat) := hd 18 (by kernel_rfl) (by decide)
              refine rstep_value rfl (v := .bool true) (w' := wx) ?_ ⟨ExtB.refl _, rfl⟩
              · simp only [hole, List.foldl_cons, List.foldl_nil, List.setIfInBounds_toArray, List.set_cons_zero, List.set_cons_succ]
                go_simp
            | _ + 20, ho => exact absurd ho (by simp)
          · intro y wx hx hd
            have e25 : y 25 = .agg #[vW, vP, .slice (some ⟨gX, 0, none⟩) X.length cX] := hd 0 (by decide)
            have e26 : y 26 = .agg #[vW, vP, .slice (some ⟨gX, 0, none⟩) X.length cX] := hd 1 (by decide)
            have e27 : y 27 = .slice (some ⟨b0, off0, none⟩) ws.length c := hd 2 (by decide)
            have e28 : y 28 = .int .i64 (k : Nat) := hd 3 (by decide)
            have e29 : y 29 = .slice (some ⟨b0, off0, none⟩) k c := hd 4 (by decide)
            have e30 : y 30 = .int .i64 (u1 : Nat) := hd 5 (by decide)
            have e31 : y 31 = .slice (some ⟨b0, off0, none⟩) ws.length c := hd 6 (by decide)
            have e32 : y 32 = .int .i64 (k : Nat) := hd 7 (by decide)
            have e33 : y 33 = .int .i64 ((k : Int) + 1) := hd 8 (by decide)
            have e34 : y 34 = .slice adt (ws.length - (k + 1)) (c - (k + 1)) := hd 9 (by decide)
            have e35 : y 35 = .int .i64 (u2 : Nat) := hd 10 (by decide)
            have e36 : y 36 = .pointer (some ⟨w.heap.size, 2, none⟩) := hd 11 (by decide)
            have e37 : y 37 = .slice (some ⟨gX, 0, none⟩) X.length cX := hd 12 (by decide)
            have e38 : y 38 = .int .i64 (iu : Nat) := hd 13 (by decide)
            have e39 : y 39 = .pointer (some ⟨gX, iu, none⟩) := hd 14 (by decide)
            have e40 : y 40 = .slice (some ⟨bX, offX, none⟩) r.length rc := hd 15 (by decide)
            have e41 : y 41 = .int .i64 (s : Nat) := hd 16 (by decide)
            have e42 : y 42 = .pointer (some ⟨bX, offX + s, none⟩) := hd 17 (by decide)
            have e43 : y 43 = .int .i64 (u2 : Nat) := hd 18 (by decide)
            have e44 : y 44 = .bool true := hd 19 (by decide)
            clear hd
            have hbx9 := HBXX.out.below (((Below.refl _ _).drew).trans hx)
            simp only [hole, List.foldl_cons, List.foldl_nil, List.setIfInBounds_toArray, List.set_cons_zero, List.set_cons_succ, e25, e26, e27, e28, e29, e30, e31, e32, e33, e34, e35, e36, e37, e38, e39, e40, e41, e42, e43, e44]
            clear e25 e26 e27 e28 e29 e30 e31 e32 e33 e34 e35 e36 e37 e38 e39 e40 e41 e42 e43 e44 hx f1 f2 f3 f4 f5 f6
            go_wp2
            go_ret2
            exact ⟨by rw [HF.out]; rfl, hbx9.hb⟩
        · have HNE := Lib.hid (fun j (hj : j < k + 1) => show delX X ws j ≠ tg by
            by_cases e : j = k
            · subst e; rw [HDX.out]; exact he
            · exact HDEL.out j (by omega))
          have he2 : ((u2 : Int) == (tg : Int)) = false := by simp; omega
          have he3 : (u2 == tg) = false := by simp; omega
          clear hlt
          go_upto_region 7 with (fail)
          refine wp_region_flow (by kernel_rfl) [25, 26, 27, 28, 29, 30, 31, 32, 33, 34, 35, 36, 37, 38, 39, 40, 41, 42, 43, 44] (by kernel_rfl) (by kernel_rfl) (by kernel_rfl) ExtB ExtB.refl (fun _ _ _ => ExtB.trans) (RFl7 w.heap.size k s iu u1 u2 tg X.length cX gX r.length rc bX offX b0 off0 ws.length c adt false vW vP) ?_ ?_ ?_ ?_
          · intro j y wa wb hx hv
            match j, hv with
            | 0, hv => exact hv
            | 1, hv => exact hv
            | 2, hv => exact hv
            | 3, hv => exact hv
            | 4, hv => exact hv
            | 5, hv => exact hv
            | 6, hv => exact hv
            | 7, hv => exact hv
            | 8, hv => exact hv
            | 9, hv => exact hv
            | 10, hv => exact hv
            | 11, hv => exact hv
            | 12, hv => exact hv
            | 13, hv => exact hv
            | 14, hv => exact hv
            | 15, hv => exact hv
            | 16, hv => exact hv
            | 17, hv => exact hv
            | 18, hv => exact hv
            | 19, hv => exact hv
            | _ + 20, _ => trivial
          · intro j y y' wx hj h hv
            match j, hj, h, hv with
            | 0, _, h, hv =>
              have e25 : y 25 = y' 25 := h 0 25 (.inr rfl) (by kernel_rfl)
              have hv' : RFl7 w.heap.size k s iu u1 u2 tg X.length cX gX r.length rc bX offX b0 off0 ws.length c adt false vW vP 0 y wx := hv
              simp only [RFl7] at hv' ⊢
              rw [← e25]
              exact hv'
            | 1, _, h, hv =>
              have e26 : y 26 = y' 26 := h 1 26 (.inr rfl) (by kernel_rfl)
              have hv' : RFl7 w.heap.size k s iu u1 u2 tg X.length cX gX r.length rc bX offX b0 off0 ws.length c adt false vW vP 1 y wx := hv
              simp only [RFl7] at hv' ⊢
              rw [← e26]
              exact hv'
            | 2, _, h, hv =>
              have e27 : y 27 = y' 27 := h 2 27 (.inr rfl) (by kernel_rfl)
              have hv' : RFl7 w.heap.size k s iu u1 u2 tg X.length cX gX r.length rc bX offX b0 off0 ws.length c adt false vW vP 2 y wx := hv
              simp only [RFl7] at hv' ⊢
              rw [← e27]
              exact hv'
            | 3, _, h, hv =>
              have e28 : y 28 = y' 28 := h 3 28 (.inr rfl) (by kernel_rfl)
              have hv' : RFl7 w.heap.size k s iu u1 u2 tg X.length cX gX r.length rc bX offX b0 off0 ws.length c adt false vW vP 3 y wx := hv
              simp only [RFl7] at hv' ⊢
              rw [← e28]
              exact hv'
            | 4, _, h, hv =>
              have e29 : y 29 = y' 29 := h 4 29 (.inr rfl) (by kernel_rfl)
              have hv' : RFl7 w.heap.size k s iu u1 u2 tg X.length cX gX r.length rc bX offX b0 off0 ws.length c adt false vW vP 4 y wx := hv
              simp only [RFl7] at hv' ⊢
              rw [← e29]
              exact hv'
            | 5, _, h, hv =>
              have e30 : y 30 = y' 30 := h 5 30 (.inr rfl) (by kernel_rfl)
              have hv' : RFl7 w.heap.size k s iu u1 u2 tg X.length cX gX r.length rc bX offX b0 off0 ws.length c adt false vW vP 5 y wx := hv
              simp only [RFl7] at hv' ⊢
              rw [← e30]
              exact hv'
            | 6, _, h, hv =>
              have e31 : y 31 = y' 31 := h 6 31 (.inr rfl) (by kernel_rfl)
              have hv' : RFl7 w.heap.size k s iu u1 u2 tg X.length cX gX r.length rc bX offX b0 off0 ws.length c adt false vW vP 6 y wx := hv
              simp only [RFl7] at hv' ⊢
              rw [← e31]
              exact hv'
            | 7, _, h, hv =>
              have e32 : y 32 = y' 32 := h 7 32 (.inr rfl) (by kernel_rfl)
              have hv' : RFl7 w.heap.size k s iu u1 u2 tg X.length cX gX r.length rc bX offX b0 off0 ws.length c adt false vW vP 7 y wx := hv
              simp only [RFl7] at hv' ⊢
              rw [← e32]
              exact hv'
            | 8, _, h, hv =>
              have e33 : y 33 = y' 33 := h 8 33 (.inr rfl) (by kernel_rfl)
              have hv' : RFl7 w.heap.size k s iu u1 u2 tg X.length cX gX r.length rc bX offX b0 off0 ws.length c adt false vW vP 8 y wx := hv
              simp only [RFl7] at hv' ⊢
              rw [← e33]
              exact hv'
            | 9, _, h, hv =>
              have e34 : y 34 = y' 34 := h 9 34 (.inr rfl) (by kernel_rfl)
              have hv' : RFl7 w.heap.size k s iu u1 u2 tg X.length cX gX r.length rc bX offX b0 off0 ws.length c adt false vW vP 9 y wx := hv
              simp only [RFl7] at hv' ⊢
              rw [← e34]
              exact hv'
            | 10, _, h, hv =>
              have e35 : y 35 = y' 35 := h 10 35 (.inr rfl) (by kernel_rfl)
              have hv' : RFl7 w.heap.size k s iu u1 u2 tg X.length cX gX r.length rc bX offX b0 off0 ws.length c adt false vW vP 10 y wx := hv
              simp only [RFl7] at hv' ⊢
              rw [← e35]
              exact hv'
            | 11, _, h, hv =>
              have e36 : y 36 = y' 36 := h 11 36 (.inr rfl) (by kernel_rfl)
              have hv' : RFl7 w.heap.size k s iu u1 u2 tg X.length cX gX r.length rc bX offX b0 off0 ws.length c adt false vW vP 11 y wx := hv
              simp only [RFl7] at hv' ⊢
              rw [← e36]
              exact hv'
            | 12, _, h, hv =>
              have e37 : y 37 = y' 37 := h 12 37 (.inr rfl) (by kernel_rfl)
              have hv' : RFl7 w.heap.size k s iu u1 u2 tg X.length cX gX r.length rc bX offX b0 off0 ws.length c adt false vW vP 12 y wx := hv
              simp only [RFl7] at hv' ⊢
              rw [← e37]
              exact hv'
            | 13, _, h, hv =>
              have e38 : y 38 = y' 38 := h 13 38 (.inr rfl) (by kernel_rfl)
              have hv' : RFl7 w.heap.size k s iu u1 u2 tg X.length cX gX r.length rc bX offX b0 off0 ws.length c adt false vW vP 13 y wx := hv
              simp only [RFl7] at hv' ⊢
              rw [← e38]
              exact hv'
            | 14, _, h, hv =>
              have e39 : y 39 = y' 39 := h 14 39 (.inr rfl) (by kernel_rfl)
              have hv' : RFl7 w.heap.size k s iu u1 u2 tg X.length cX gX r.length rc bX offX b0 off0 ws.length c adt false vW vP 14 y wx := hv
              simp only [RFl7] at hv' ⊢
              rw [← e39]
              exact hv'
            | 15, _, h, hv =>
              have e40 : y 40 = y' 40 := h 15 40 (.inr rfl) (by kernel_rfl)
              have hv' : RFl7 w.heap.size k s iu u1 u2 tg X.length cX gX r.length rc bX offX b0 off0 ws.length c adt false vW vP 15 y wx := hv
              simp only [RFl7] at hv' ⊢
              rw [← e40]
              exact hv'
            | 16, _, h, hv =>
              have e41 : y 41 = y' 41 := h 16 41 (.inr rfl) (by kernel_rfl)
              have hv' : RFl7 w.heap.size k s iu u1 u2 tg X.length cX gX r.length rc bX offX b0 off0 ws.length c adt false vW vP 16 y wx := hv
              simp only [RFl7] at hv' ⊢
              rw [← e41]
              exact hv'
            | 17, _, h, hv =>
              have e42 : y 42 = y' 42 := h 17 42 (.inr rfl) (by kernel_rfl)
              have hv' : RFl7 w.heap.size k s iu u1 u2 tg X.length cX gX r.length rc bX offX b0 off0 ws.length c adt false vW vP 17 y wx := hv
              simp only [RFl7] at hv' ⊢
              rw [← e42]
              exact hv'
            | 18, _, h, hv =>
              have e43 : y 43 = y' 43 := h 18 43 (.inr rfl) (by kernel_rfl)
              have hv' : RFl7 w.heap.size k s iu u1 u2 tg X.length cX gX r.length rc bX offX b0 off0 ws.length c adt false vW vP 18 y wx := hv
              simp only [RFl7] at hv' ⊢
              rw [← e43]
              exact hv'
            | 19, _, h, hv =>
              have e44 : y 44 = y' 44 := h 19 44 (.inr rfl) (by kernel_rfl)
              have hv' : RFl7 w.heap.size k s iu u1 u2 tg X.length cX gX r.length rc bX offX b0 off0 ws.length c adt false vW vP 19 y wx := hv
              simp only [RFl7] at hv' ⊢
              rw [← e44]
              exact hv'
            | j + 20, hj, _, _ => exact absurd hj (by simp)
          · intro i o ho y wx hx hd hini
            match i, ho with
            | 0, ho =>
              obtain rfl := Option.some.inj ho
              have hbq := HBXX.out.below (((Below.refl _ _).drew).trans hx)
              have c0 := hbq.hh.at (i := 0) rfl
              have c1 := hbq.hh.at (i := 1) rfl
              have c2 := hbq.hh.at (i := 2) rfl
              refine rstep_value rfl (v := .agg #[vW, vP, .slice (some ⟨gX, 0, none⟩) X.length cX]) (w' := wx) ?_ ⟨ExtB.refl _, rfl⟩
              · simp only [hole, List.foldl_cons, List.foldl_nil, List.setIfInBounds_toArray, List.set_cons_zero, List.set_cons_succ]
                go_simp
            | 1, ho =>
              obtain rfl := Option.some.inj ho
              have hbq := HBXX.out.below (((Below.refl _ _).drew).trans hx)
              have c0 := hbq.hh.at (i := 0) rfl
              have c1 := hbq.hh.at (i := 1) rfl
              have c2 := hbq.hh.at (i := 2) rfl
              refine rstep_value rfl (v := .agg #[vW, vP, .slice (some ⟨gX, 0, none⟩) X.length cX]) (w' := wx) ?_ ⟨ExtB.refl _, rfl⟩
              · simp only [hole, List.foldl_cons, List.foldl_nil, List.setIfInBounds_toArray, List.set_cons_zero, List.set_cons_succ]
                go_simp
            | 2, ho =>
              obtain rfl := Option.some.inj ho
              refine rstep_value rfl (v := .slice (some ⟨b0, off0, none⟩) ws.length c) (w' := wx) ?_ ⟨ExtB.refl _, rfl⟩
              · simp only [hole, List.foldl_cons, List.foldl_nil, List.setIfInBounds_toArray, List.set_cons_zero, List.set_cons_succ]
                go_simp
            | 3, ho =>
              obtain rfl := Option.some.inj ho
              refine rstep_value rfl (v := .int .i64 (k : Nat)) (w' := wx) ?_ ⟨ExtB.refl _, rfl⟩
              · simp only [hole, List.foldl_cons, List.foldl_nil, List.setIfInBounds_toArray, List.set_cons_zero, List.set_cons_succ]
                go_simp
            | 4, ho =>
              obtain rfl := Option.some.inj ho
              have e27 : y 27 = .slice (some ⟨b0, off0, none⟩) ws.length c := hd 2 (by kernel_rfl) (by decide)
              have e28 : y 28 = .int .i64 (k : Nat) := hd 3 (by kernel_rfl) (by decide)
              refine rstep_value rfl (v := .slice (some ⟨b0, off0, none⟩) k c) (w' := wx) ?_ ⟨ExtB.refl _, rfl⟩
              · simp only [hole, List.foldl_cons, List.foldl_nil, List.setIfInBounds_toArray, List.set_cons_zero, List.set_cons_succ]
                go_simp
            | 5, ho =>
              obtain rfl := Option.some.inj ho
              have e26 : y 26 = .agg #[vW, vP, .slice (some ⟨gX, 0, none⟩) X.length cX] := hd 1 (by kernel_rfl) (by decide)
              have e29 : y 29 = .slice (some ⟨b0, off0, none⟩) k c := hd 4 (by kernel_rfl) (by decide)
              have hbq := HBXX.out.below (((Below.refl _ _).drew).trans hx)
              refine rstep_call rfl (f := 22) (args := #[.agg #[vW, vP, .slice (some ⟨gX, 0, none⟩) X.length cX], .int .i64 0, .slice (some ⟨b0, off0, none⟩) k c]) (w' := wx) ?_ (W1.out wx hbq.hb) ?_
              · simp only [hole, List.foldl_cons, List.foldl_nil, List.setIfInBounds_toArray, List.set_cons_zero, List.set_cons_succ]
                go_simp
              · rintro e w'' ⟨rfl, hb⟩
                exact ⟨_, rfl, hb, rfl⟩
            | 6, ho =>
              obtain rfl := Option.some.inj ho
              refine rstep_value rfl (v := .slice (some ⟨b0, off0, none⟩) ws.length c) (w' := wx) ?_ ⟨ExtB.refl _, rfl⟩
              · simp only [hole, List.foldl_cons, List.foldl_nil, List.setIfInBounds_toArray, List.set_cons_zero, List.set_cons_succ]
                go_simp
            | 7, ho =>
              obtain rfl := Option.some.inj ho
              refine rstep_value rfl (v := .int .i64 (k : Nat)) (w' := wx) ?_ ⟨ExtB.refl _, rfl⟩
              · simp only [hole, List.foldl_cons, List.foldl_nil, List.setIfInBounds_toArray, List.set_cons_zero, List.set_cons_succ]
                go_simp
            | 8, ho =>
              obtain rfl := Option.some.inj ho
              have e32 : y 32 = .int .i64 (k : Nat) := hd 7 (by kernel_rfl) (by decide)
              refine rstep_value rfl (v := .int .i64 ((k : Int) + 1)) (w' := wx) ?_ ⟨ExtB.refl _, rfl⟩
              · simp only [hole, List.foldl_cons, List.foldl_nil, List.setIfInBounds_toArray, List.set_cons_zero, List.set_cons_succ]
                go_simp
            | 9, ho =>
              obtain rfl := Option.some.inj ho
              have e31 : y 31 = .slice (some ⟨b0, off0, none⟩) ws.length c := hd 6 (by kernel_rfl) (by decide)
              have e33 : y 33 = .int .i64 ((k : Int) + 1) := hd 8 (by kernel_rfl) (by decide)
              refine rstep_value rfl (v := .slice adt (ws.length - (k + 1)) (c - (k + 1))) (w' := wx) ?_ ⟨ExtB.refl _, rfl⟩
              · simp only [hole, List.foldl_cons, List.foldl_nil, List.setIfInBounds_toArray, List.set_cons_zero, List.set_cons_succ]
                go_simp
            | 10, ho =>
              obtain rfl := Option.some.inj ho
              have e25 : y 25 = .agg #[vW, vP, .slice (some ⟨gX, 0, none⟩) X.length cX] := hd 0 (by kernel_rfl) (by decide)
              have e30 : y 30 = .int .i64 (u1 : Nat) := hd 5 (by kernel_rfl) (by decide)
              have e34 : y 34 = .slice adt (ws.length - (k + 1)) (c - (k + 1)) := hd 9 (by kernel_rfl) (by decide)
              have hbq := HBXX.out.below (((Below.refl _ _).drew).trans hx)
              refine rstep_call rfl (f := 22) (args := #[.agg #[vW, vP, .slice (some ⟨gX, 0, none⟩) X.length cX], .int .i64 (u1 : Nat), .slice adt (ws.length - (k + 1)) (c - (k + 1))]) (w' := wx) ?_ (W2.out wx hbq.hb) ?_
              · simp only [hole, List.foldl_cons, List.foldl_nil, List.setIfInBounds_toArray, List.set_cons_zero, List.set_cons_succ]
                go_simp
              · rintro e w'' ⟨rfl, hb⟩
                exact ⟨_, rfl, hb, rfl⟩
            | 11, ho =>
              obtain rfl := Option.some.inj ho
              refine rstep_value rfl (v := .pointer (some ⟨w.heap.size, 2, none⟩)) (w' := wx) ?_ ⟨ExtB.refl _, rfl⟩
              · simp only [hole, List.foldl_cons, List.foldl_nil, List.setIfInBounds_toArray, List.set_cons_zero, List.set_cons_succ]
                go_simp
            | 12, ho =>
              obtain rfl := Option.some.inj ho
              have e36 : y 36 = .pointer (some ⟨w.heap.size, 2, none⟩) := hd 11 (by kernel_rfl) (by decide)
              have hbq := HBXX.out.below (((Below.refl _ _).drew).trans hx)
              have c0 := hbq.hh.at (i := 0) rfl
              have c1 := hbq.hh.at (i := 1) rfl
              have c2 := hbq.hh.at (i := 2) rfl
              refine rstep_value rfl (v := .slice (some ⟨gX, 0, none⟩) X.length cX) (w' := wx) ?_ ⟨ExtB.refl _, rfl⟩
              · simp only [hole, List.foldl_cons, List.foldl_nil, List.setIfInBounds_toArray, List.set_cons_zero, List.set_cons_succ]
                go_simp
            | 13, ho =>
              obtain rfl := Option.some.inj ho
              refine rstep_value rfl (v := .int .i64 (iu : Nat)) (w' := wx) ?_ ⟨ExtB.refl _, rfl⟩
              · simp only [hole, List.foldl_cons, List.foldl_nil, List.setIfInBounds_toArray, List.set_cons_zero, List.set_cons_succ]
                go_simp
            | 14, ho =>
              obtain rfl := Option.some.inj ho
              have e37 : y 37 = .slice (some ⟨gX, 0, none⟩) X.length cX := hd 12 (by kernel_rfl) (by decide)
              have e38 : y 38 = .int .i64 (iu : Nat) := hd 13 (by kernel_rfl) (by decide)
              refine rstep_value rfl (v := .pointer (some ⟨gX, iu, none⟩)) (w' := wx) ?_ ⟨ExtB.refl _, rfl⟩
              · simp only [hole, List.foldl_cons, List.foldl_nil, List.setIfInBounds_toArray, List.set_cons_zero, List.set_cons_succ]
                go_simp
            | 15, ho =>
              obtain rfl := Option.some.inj ho
              have e39 : y 39 = .pointer (some ⟨gX, iu, none⟩) := hd 14 (by kernel_rfl) (by decide)
              have hbq := HBXX.out.below (((Below.refl _ _).drew).trans hx)
              obtain ⟨c5, c6⟩ := HCX.out wx hbq.hb
              refine rstep_value rfl (v := .slice (some ⟨bX, offX, none⟩) r.length rc) (w' := wx) ?_ ⟨ExtB.refl _, rfl⟩
              · simp only [hole, List.foldl_cons, List.foldl_nil, List.setIfInBounds_toArray, List.set_cons_zero, List.set_cons_succ]
                go_simp
            | 16, ho =>
              obtain rfl := Option.some.inj ho
              refine rstep_value rfl (v := .int .i64 (s : Nat)) (w' := wx) ?_ ⟨ExtB.refl _, rfl⟩
              · simp only [hole, List.foldl_cons, List.foldl_nil, List.setIfInBounds_toArray, List.set_cons_zero, List.set_cons_succ]
                go_simp
            | 17, ho =>
              obtain rfl := Option.some.inj ho
              have e40 : y 40 = .slice (some ⟨bX, offX, none⟩) r.length rc := hd 15 (by kernel_rfl) (by decide)
              have e41 : y 41 = .int .i64 (s : Nat) := hd 16 (by kernel_rfl) (by decide)
              refine rstep_value rfl (v := .pointer (some ⟨bX, offX + s, none⟩)) (w' := wx) ?_ ⟨ExtB.refl _, rfl⟩
              · simp only [hole, List.foldl_cons, List.foldl_nil, List.setIfInBounds_toArray, List.set_cons_zero, List.set_cons_succ]
                go_simp
            | 18, ho =>
              obtain rfl := Option.some.inj ho
              have e42 : y 42 = .pointer (some ⟨bX, offX + s, none⟩) := hd 17 (by kernel_rfl) (by decide)
              have hbq := HBXX.out.below (((Below.refl _ _).drew).trans hx)
              obtain ⟨c5, c6⟩ := HCX.out wx hbq.hb
              refine rstep_value rfl (v := .int .i64 (tg : Nat)) (w' := wx) ?_ ⟨ExtB.refl _, rfl⟩
              · simp only [hole, List.foldl_cons, List.foldl_nil, List.setIfInBounds_toArray, List.set_cons_zero, List.set_cons_succ]
                go_simp
            | 19, ho =>
              obtain rfl := Option.some.inj ho
              have e35 : y 35 = .int .i64 (u2 : Nat) := hd 10 (by kernel_rfl) (by decide)
              have e43 : y 43 = .int .i64 (tg : Nat) := hd 18 (by kernel_rfl) (by decide)
              refine rstep_value rfl (v := .bool false) (w' := wx) ?_ ⟨ExtB.refl _, rfl⟩
              · simp only [hole, List.foldl_cons, List.foldl_nil, List.setIfInBounds_toArray, List.set_cons_zero, List.set_cons_succ]
                go_simp
            | _ + 20, ho => exact absurd ho (by simp)
          · intro y wx hx hd
            have e25 : y 25 = .agg #[vW, vP, .slice (some ⟨gX, 0, none⟩) X.length cX] := hd 0 (by decide)
            have e26 : y 26 = .agg #[vW, vP, .slice (some ⟨gX, 0, none⟩) X.length cX] := hd 1 (by decide)
            have e27 : y 27 = .slice (some ⟨b0, off0, none⟩) ws.length c := hd 2 (by decide)
            have e28 : y 28 = .int .i64 (k : Nat) := hd 3 (by decide)
            have e29 : y 29 = .slice (some ⟨b0, off0, none⟩) k c := hd 4 (by decide)
            have e30 : y 30 = .int .i64 (u1 : Nat) := hd 5 (by decide)
            have e31 : y 31 = .slice (some ⟨b0, off0, none⟩) ws.length c := hd 6 (by decide)
            have e32 : y 32 = .int .i64 (k : Nat) := hd 7 (by decide)
            have e33 : y 33 = .int .i64 ((k : Int) + 1) := hd 8 (by decide)
            have e34 : y 34 = .slice adt (ws.length - (k + 1)) (c - (k + 1)) := hd 9 (by decide)
            have e35 : y 35 = .int .i64 (u2 : Nat) := hd 10 (by decide)
            have e36 : y 36 = .pointer (some ⟨w.heap.size, 2, none⟩) := hd 11 (by decide)
            have e37 : y 37 = .slice (some ⟨gX, 0, none⟩) X.length cX := hd 12 (by decide)
            have e38 : y 38 = .int .i64 (iu : Nat) := hd 13 (by decide)
            have e39 : y 39 = .pointer (some ⟨gX, iu, none⟩) := hd 14 (by decide)
            have e40 : y 40 = .slice (some ⟨bX, offX, none⟩) r.length rc := hd 15 (by decide)
            have e41 : y 41 = .int .i64 (s : Nat) := hd 16 (by decide)
            have e42 : y 42 = .pointer (some ⟨bX, offX + s, none⟩) := hd 17 (by decide)
            have e43 : y 43 = .int .i64 (tg : Nat) := hd 18 (by decide)
            have e44 : y 44 = .bool false := hd 19 (by decide)
            clear hd
            have hbx9 := HBXX.out.below (((Below.refl _ _).drew).trans hx)
            simp only [hole, List.foldl_cons, List.foldl_nil, List.setIfInBounds_toArray, List.set_cons_zero, List.set_cons_succ, e25, e26, e27, e28, e29, e30, e31, e32, e33, e34, e35, e36, e37, e38, e39, e40, e41, e42, e43, e44]
            clear e25 e26 e27 e28 e29 e30 e31 e32 e33 e34 e35 e36 e37 e38 e39 e40 e41 e42 e43 e44 hx f1 f2 f3 f4 f5 f6
            go_wp2
            go_roundw
            case rel => exact ⟨k + 1, by have := HLT.out; omega, by go_num, HNE.out, hbx9⟩
            case measure => have := HLT.out; simp [intOf]; omega
      · obtain rfl : k = ws.length := by omega
        have hki : ¬ ((ws.length : Nat) : Int) < (ws.length : Int) := by omega
        have HF := Lib.hid (leave_none (X := X) (ws := ws) (tg := tg) HDEL.out)
        go_wp2
        go_ret2
        exact ⟨by rw [HF.out]; rfl, HBXX.out.hb⟩
end Go.Proofs.Ytmlhecfhhhebnaa
