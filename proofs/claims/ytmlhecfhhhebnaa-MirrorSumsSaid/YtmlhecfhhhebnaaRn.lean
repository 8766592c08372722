/- The reference table's Length, Number, Back, Falls: the walks. -/
import Derived.Test.YtmlhecfhhhebnaaEj
import Derived.Deep.QuietTactic
import Derived.BigQuiet
namespace Go.Proofs.Ytmlhecfhhhebnaa
open Go.RowKit

/-- A value of the reference's table, with its words and products. -/
def RT (W X : List (List Nat)) (w : World) (v : Value) : Prop :=
  ∃ (vW vP vX : Value) (P : List (List Nat)), v = .agg #[vW, vP, vX] ∧ RowsF (fun _ => True) 0 w vW W ∧ RowsF (fun _ => True) 0 w vP P ∧ RowsF (fun _ => True) 0 w vX X
theorem RTab.rt {K n : Nat} {w : World} {v : Value} (h : RTab K n w v) : RT (wordsG K n) (nextG K n) w v := h
theorem RT.below {W X : List (List Nat)} {w w' : World} {v : Value} (h : RT W X w v) (hb : Below w.heap.size w w') : RT W X w' v := by
  obtain ⟨vW, vP, vX, P, rfl, h1, h2, h3⟩ := h
  exact ⟨vW, vP, vX, P, rfl, h1.kept (S' := fun _ => True) (Sm.of_below hb) (fun _ _ => trivial) (fun _ _ => trivial), h2.kept (S' := fun _ => True) (Sm.of_below hb) (fun _ _ => trivial) (fun _ _ => trivial), h3.kept (S' := fun _ => True) (Sm.of_below hb) (fun _ _ => trivial) (fun _ _ => trivial)⟩

set_option maxRecDepth 20000 in
set_option maxHeartbeats 1000000 in
theorem RLength_any {m N : Nat} {W X : List (List Nat)} (v : Value) (u : Nat) (w : World) (ht : RT W X w v) (hk : Tk m N W X) (hu : u < N) :
    Calls Try.prog 29 #[v, .int .i64 (u : Nat)] w fun e w' => e = .returned (.int .i64 ((lenX W u : Nat) : Int)) ∧ Below w.heap.size w w' := by
  have hul : u < W.length := by rw [hk.lw]; exact hu
  have hb0 : Below w.heap.size w (w.alloc (.cells #[.int .i64 0] 3)) := (Below.refl _ _).alloc (Nat.le_refl _) _
  have hr := ht
  obtain ⟨vW, vP, vX, P, rfl, hW, _, _⟩ := ht
  obtain ⟨vW', vP', vX', P', e', hW', _, _⟩ := hr.below ((Below.refl _ _).alloc (Nat.le_refl _) (.cells #[vW, vP, vX] 36))
  obtain ⟨rfl, rfl, rfl⟩ : vW = vW' ∧ vP = vP' ∧ vX = vX' := by simpa using e'
  obtain ⟨g, cap, ra, rc, e, hgc, hrc, _, hrow⟩ := hW'.cells u hul
  have HBB := Lib.hid ((Below.refl w.heap.size w).alloc (Nat.le_refl _) (.cells #[vW, vP, vX] 36))
  subst e
  have HL := Lib.hid (show lenX W u = (W[u]).length by unfold lenX; rw [getDL hul])
  have hxX : (u : Int) < (W.length : Int) := by rw [hk.lw]; omega
  clear hW' hW hrow hk hr e' hb0
  go_enter Try.func29, Try.ntmps29
  go_wp2
  go_ret
  exact ⟨ret_int (by rw [HL.out]), HBB.out⟩

/-- The table's box behind the first operation. -/
structure BoxI (H : Nat) (vW vP vX : Value) (w wr : World) : Prop where
  hh : Held wr H 36 [vW, vP, vX]
  hb : Below w.heap.size w wr
theorem BoxI.below {H : Nat} {vW vP vX : Value} {w a b : World} (h : BoxI H vW vP vX w a) (hb : Below a.heap.size a b) : BoxI H vW vP vX w b :=
  ⟨h.hh.below hb h.hh.lt, h.hb.trans (hb.mono h.hb.size)⟩
theorem BoxI.made (vW vP vX : Value) (w : World) : BoxI w.heap.size vW vP vX w (w.alloc (.cells #[vW, vP, vX] 36)) :=
  ⟨Held.made (l := [vW, vP, vX]) (by simp), (Below.refl _ _).alloc (Nat.le_refl _) _⟩

set_option maxRecDepth 20000 in
set_option maxHeartbeats 2000000 in
theorem RNumber_any {m N : Nat} {W X : List (List Nat)} (vt : Value) (u : Nat) (v : Value) (ws : List Nat) (w : World) (ht : RT W X w vt) (hk : Tk m N W X) (hv : Ints w v (toI ws)) (hu : u < N) (hws : ∀ s ∈ ws, s < m) :
    Calls Try.prog 22 #[vt, .int .i64 (u : Nat), v] w fun e w' => e = .returned (.int .i64 ((walkX X u ws : Nat) : Int)) ∧ Below w.heap.size w w' := by
  have hr := ht
  obtain ⟨vW, vP, vX, P, rfl, hW, _, _⟩ := ht
  have HBX := Lib.hid (BoxI.made vW vP vX w)
  obtain ⟨a, c, rfl, hlen, hcl, hc⟩ := (hv.below HBX.out.hb).openN
  have HCC := Lib.hid hc
  have HK := Lib.hid hk
  obtain ⟨vW', vP', vX', P', e', _, _, hX'⟩ := hr.below HBX.out.hb
  obtain ⟨rfl, rfl, rfl⟩ : vW = vW' ∧ vP = vP' ∧ vX = vX' := by simpa using e'
  have HXX := Lib.hid hX'
  have HWS := Lib.hid hws
  have hN := hk.small
  obtain ⟨aX, cX, eX⟩ := hX'.form
  clear hv hc hk hws hr e' hW hX'
  subst eX
  go_enter Try.func22, Try.ntmps22
  go_wp2
  go_loop [1, 11] (fun uv ix => ∃ k : Nat, k ≤ ws.length ∧ ix = .int .i64 k ∧ uv = .int .i64 ((walkX X u (ws.take k) : Nat) : Int)) (fun _ i => ws.length - (intOf i).toNat)
  case atStart => exact ⟨0, Nat.zero_le _, rfl, rfl⟩
  case round =>
    obtain ⟨k, hkl, rfl, rfl⟩ := hrel
    by_cases hlt : k < ws.length
    · obtain ⟨b, off, rfl, hbl, hcell⟩ := HCC.out (ne_nil_of_lt hlt)
      have hcx := hcell k hlt
      have hki : (k : Int) < (ws.length : Int) := by omega
      have hsm := HWS.out _ (List.getElem_mem hlt)
      have hun := HK.out.walk (ws.take k) u hu (fun x hx => HWS.out x (List.mem_of_mem_take hx))
      have HST := Lib.hid (walkX_take (X := X) (u := u) k hlt)
      obtain ⟨x, hx⟩ : ∃ x, walkX X u (ws.take k) = x := ⟨_, rfl⟩
      obtain ⟨s, hs⟩ : ∃ s, ws[k] = s := ⟨_, rfl⟩
      rw [hs] at hcx hsm HST
      rw [hx] at hun HST
      obtain ⟨r, hr1, hr2, hr3, hr4⟩ := HK.out.rowAt hun
      obtain ⟨g, cap, ra, rc, e, hgc, hrc, _, hrow⟩ := HXX.out.cells x (by rw [HK.out.lx]; exact hun)
      have HR := Lib.hid (show stepX X x s = r.getD s 0 by unfold stepX; rw [hr2])
      rw [hr1] at hgc hrc hrow
      obtain ⟨b2, off2, rfl, hcell2⟩ := hrow (by omega)
      have hcy := hcell2 s (by omega)
      have HG := Lib.hid (getDN (l := r) (i := s) (by omega))
      obtain ⟨y, hy⟩ : ∃ y, r[s]'(by omega) = y := ⟨_, rfl⟩
      rw [hy] at hcy HG
      obtain ⟨rfl, _, rfl⟩ := Value.slice.inj e
      have hxX : (x : Int) < (X.length : Int) := by rw [HK.out.lx]; omega
      have hsr : (s : Int) < (r.length : Int) := by omega
      rw [hx]
      clear hx hs hr1 hr2 hr3 hr4 hrow hcell2 hcell hy e
      go_wp2
      go_round
      case rel => exact ⟨k + 1, by omega, by go_num, by rw [HST.out, HR.out, HG.out]⟩
      case measure => simp [intOf]; omega
    · obtain rfl : k = ws.length := by omega
      have hki : ¬ ((ws.length : Nat) : Int) < (ws.length : Int) := by omega
      go_wp2
      go_ret
      exact ⟨rfl, HBX.out.hb⟩

set_option maxRecDepth 20000 in
set_option maxHeartbeats 4000000 in
theorem RBack_any {m N : Nat} {W X : List (List Nat)} (vt : Value) (u : Nat) (w : World) (ht : RT W X w vt) (hk : Tk m N W X) (hu : u < N) :
    Calls Try.prog 24 #[vt, .int .i64 (u : Nat)] w fun e w' => e = .returned (.int .i64 ((walkX X 0 (W.getD u []).reverse : Nat) : Int)) ∧ Below w.heap.size w w' := by
  have hul : u < W.length := by rw [hk.lw]; exact hu
  have hr := ht
  obtain ⟨vW, vP, vX, P, rfl, hW, _, _⟩ := ht
  have HBX := Lib.hid (BoxI.made vW vP vX w)
  have RL := Lib.hid (fun (w' : World) (h : RT W X w' (.agg #[vW, vP, vX])) => RLength_any (.agg #[vW, vP, vX]) u w' h hk hu)
  have HR := Lib.hid hr
  have HK := Lib.hid hk
  have HLX := Lib.hid (show lenX W u = (W.getD u []).length from rfl)
  obtain ⟨wd, hwd⟩ : ∃ wd, W.getD u [] = wd := ⟨_, rfl⟩
  have hwm : wd ∈ W := by rw [← hwd, getDL hul]; exact List.getElem_mem hul
  have HWS := Lib.hid (fun s (hs : s ∈ wd.reverse) => hk.letter wd hwm s (List.mem_reverse.1 hs))
  have hwl := hk.short wd hwm
  have HWD := Lib.hid hwd
  have hN := hk.small
  have HUL := Lib.hid hul
  rw [hwd] at HLX ⊢
  have huW : (u : Int) < (W.length : Int) := by omega
  have hwr : IntKind.i64.wrap ((wd.length : Int) - 1) = (wd.length : Int) - 1 := IntWalk.i64_in _ (by omega)
  clear hr hk hW hwd hwm hul
  go_enter Try.func24, Try.ntmps24
  go_upto_region 3 with (go_at_call 29; refine (RL.out _ (HR.out.below HBX.out.hb)).mono ?_; rintro e w1 ⟨rfl, hb1⟩; rw [HLX.out])
  have HB1 := Lib.hid (HBX.out.below hb1)
  have HR1 := Lib.hid ((HR.out.below HBX.out.hb).below hb1)
  clear hb1 hwr
  go_loopw [5, 6] (fun o ix wr => ∃ j : Nat, j ≤ wd.length ∧ ix = .int .i64 ((wd.length : Int) - 1 - (j : Int)) ∧ o = .int .i64 ((walkX X 0 (wd.reverse.take j) : Nat) : Int) ∧ BoxI w.heap.size vW vP vX w wr ∧ RT W X wr (.agg #[vW, vP, vX])) (fun _ i _ => (intOf i + 1).toNat)
  case atStart => exact ⟨0, Nat.zero_le _, by simp, rfl, HB1.out, HR1.out⟩
  case round =>
    obtain ⟨j, hj, rfl, rfl, hbx, hrt⟩ := hrel
    by_cases hlt : j < wd.length
    · have hge : (0 : Int) ≤ (wd.length : Int) - 1 - (j : Int) := by omega
      obtain ⟨p, hp⟩ : ∃ p : Nat, wd.length - 1 - j = p := ⟨_, rfl⟩
      have hpe : (wd.length : Int) - 1 - (j : Int) = (p : Int) := by omega
      have hpl : p < wd.length := by omega
      have hun := HK.out.walk (wd.reverse.take j) 0 HK.out.pos (fun x hx => HWS.out x (List.mem_of_mem_take hx))
      have hjr : j < wd.reverse.length := by simpa using hlt
      have HST := Lib.hid (walkX_take (X := X) (u := 0) (w := wd.reverse) j hjr)
      have hsm := HWS.out _ (List.getElem_mem hjr)
      have hse : wd.reverse[j] = wd[p] := by rw [List.getElem_reverse]; congr 1
      rw [hse] at HST hsm
      obtain ⟨x, hx⟩ : ∃ x, walkX X 0 (wd.reverse.take j) = x := ⟨_, rfl⟩
      obtain ⟨s, hs⟩ : ∃ s, wd[p] = s := ⟨_, rfl⟩
      rw [hs] at hsm HST
      rw [hx] at hun HST
      obtain ⟨vW', vP', vX', P', e', hWr, _, hXr⟩ := hrt
      obtain ⟨rfl, rfl, rfl⟩ : vW = vW' ∧ vP = vP' ∧ vX = vX' := by simpa using e'
      obtain ⟨gw, capw, wa, wc, ew, hwgc, hwrc, _, hwrow⟩ := hWr.cells u HUL.out
      have hWD2 : W[u]'HUL.out = wd := by rw [← getDL HUL.out]; exact HWD.out
      rw [hWD2] at hwgc hwrc hwrow
      obtain ⟨b1, off1, rfl, hcell1⟩ := hwrow (by omega)
      have hcs := hcell1 p hpl
      rw [hs] at hcs
      obtain ⟨r, hr1, hr2, hr3, hr4⟩ := HK.out.rowAt hun
      obtain ⟨g, cap, ra, rc, e, hgc, hrc, _, hrow⟩ := hXr.cells x (by rw [HK.out.lx]; exact hun)
      have HRR := Lib.hid (show stepX X x s = r.getD s 0 by unfold stepX; rw [hr2])
      rw [hr1] at hgc hrc hrow
      obtain ⟨b2, off2, rfl, hcell2⟩ := hrow (by omega)
      have hcy := hcell2 s (by omega)
      have HG := Lib.hid (getDN (l := r) (i := s) (by omega))
      obtain ⟨y, hy⟩ : ∃ y, r[s]'(by omega) = y := ⟨_, rfl⟩
      rw [hy] at hcy HG
      subst ew
      subst e
      have hxX : (x : Int) < (X.length : Int) := by rw [HK.out.lx]; omega
      have hsr : (s : Int) < (r.length : Int) := by omega
      have hplI : (p : Int) < (wd.length : Int) := by omega
      have hx0 : (0 : Int) ≤ (x : Int) := by omega
      have hu0 : (0 : Int) ≤ (u : Int) := by omega
      have hp0 : (0 : Int) ≤ (p : Int) := by omega
      have hs0 : (0 : Int) ≤ (s : Int) := by omega
      have c0 := hbx.hh.at (i := 0) rfl
      have c2 := hbx.hh.at (i := 2) rfl
      have HBXX := Lib.hid hbx
      have HRTT := Lib.hid (show RT W X wr (.agg #[.slice (some ⟨gw, 0, none⟩) W.length capw, vP, .slice (some ⟨g, 0, none⟩) X.length cap]) from ⟨_, _, _, P', rfl, hWr, by assumption, hXr⟩)
      have HPE := Lib.hid hp
      have HLT := Lib.hid hlt
      rw [hx, hpe]
      clear hx hs hr1 hr2 hr3 hr4 hrow hcell2 hcell1 hwrow hy hp hpe hge hlt hse hjr hbx hj hWD2 hWr hXr
      go_upto_region 5 with (fail)
      go_quiet (fail)
      go_wp2
      go_roundw
      case rel =>
        refine ⟨j + 1, by have := HLT.out; omega, ?_, by rw [HST.out, HRR.out, HG.out], HBXX.out.below ?_, HRTT.out.below ?_⟩
        · have := HPE.out; have := HLT.out; congr 1; omega
        · exact below_drewM (Below.refl _ _) _
        · exact below_drewM (Below.refl _ _) _
      case measure => have := HPE.out; have := HLT.out; simp [intOf] <;> omega
    · obtain rfl : j = wd.length := by omega
      have hge : ¬ (0 : Int) ≤ (wd.length : Int) - 1 - ((wd.length : Nat) : Int) := by omega
      have hge2 : (wd.length : Int) - 1 - ((wd.length : Nat) : Int) = -1 := by omega
      rw [hge2, List.take_of_length_le (by simp)]
      have HBXX := Lib.hid hbx
      clear hge hge2 hbx hrt
      go_wp2
      go_ret
      exact ⟨rfl, HBXX.out.hb⟩

def RFl5 (u a b : Nat) (bb : Bool) (vW vP vX : Value) (y0 : Nat) : Nat → (Nat → Value) → World → Prop
  | 0, y, _ => y 19 = .agg #[vW, vP, vX]
  | 1, y, _ => y 20 = .int .i64 (y0 : Nat)
  | 2, y, _ => y 21 = .int .i64 (a : Nat)
  | 3, y, _ => y 22 = .agg #[vW, vP, vX]
  | 4, y, _ => y 23 = .int .i64 (u : Nat)
  | 5, y, _ => y 24 = .int .i64 (b : Nat)
  | 6, y, _ => y 25 = .bool bb
  | _, _, _ => True

set_option maxRecDepth 20000 in
set_option maxHeartbeats 4000000 in
theorem RFalls_any {m N : Nat} {W X : List (List Nat)} (vt : Value) (u : Nat) (w : World) (ht : RT W X w vt) (hk : Tk m N W X) (hu : u < N) :
    Calls Try.prog 28 #[vt, .int .i64 (u : Nat)] w fun e w' => e = .returned (.int .i64 ((fallsTo W X u m : Nat) : Int)) ∧ Below w.heap.size w w' := by
  have hr0 := ht
  obtain ⟨vW, vP, vX, P, rfl, hW, _, _⟩ := ht
  have HBX := Lib.hid (BoxI.made vW vP vX w)
  have RL := Lib.hid (fun (w' : World) (yv : Nat) (hy : yv < N) (h : RT W X w' (.agg #[vW, vP, vX])) => RLength_any (.agg #[vW, vP, vX]) yv w' h hk hy)
  have hN := hk.small
  have hm4 := hk.m4
  obtain ⟨r, hr1, hr2, hr3, hr4⟩ := hk.rowAt hu
  obtain ⟨vW', vP', vX', P', e', _, _, hXr⟩ := hr0.below HBX.out.hb
  obtain ⟨rfl, rfl, rfl⟩ : vW = vW' ∧ vP = vP' ∧ vX = vX' := by simpa using e'
  have hux : u < X.length := by rw [hk.lx]; exact hu
  obtain ⟨g, cap, ra, rc, e, hgc, hrc, _, hrow⟩ := hXr.cells u hux
  rw [hr1] at hgc hrc hrow
  have HROW := Lib.hid hrow
  have HR4 := Lib.hid hr4
  have HST := Lib.hid (fun s => show stepX X u s = r.getD s 0 by unfold stepX; rw [hr2])
  have HR0 := Lib.hid hr0
  have hxX : (u : Int) < (X.length : Int) := by rw [hk.lx]; omega
  subst e
  subst hr3
  have hr120 : r.length ≤ 4 := hm4
  have HUN := Lib.hid hu
  clear hr1 hr2 hrow hr4 hk hr0 hW hXr e' hu
  go_enter Try.func28, Try.ntmps28
  go_upto_region 3 with (fail)
  go_loopw [5, 14] (fun o ix wr => ∃ k : Nat, k ≤ r.length ∧ ix = .int .i64 k ∧ o = .int .i64 ((fallsTo W X u k : Nat) : Int) ∧ BoxI w.heap.size vW vP (.slice (some ⟨g, 0, none⟩) X.length cap) w wr ∧ Below (w.heap.size + 1) (w.alloc (.cells #[vW, vP, .slice (some ⟨g, 0, none⟩) X.length cap] 36)) wr) (fun _ i _ => r.length - (intOf i).toNat)
  case atStart => exact ⟨0, Nat.zero_le _, rfl, rfl, HBX.out, Below.refl _ _⟩
  case round =>
    obtain ⟨k, hkl, rfl, rfl, hbx, hbw⟩ := hrel
    by_cases hlt : k < r.length
    · obtain ⟨b2, off2, rfl, hcell2⟩ := HROW.out (by omega)
      have hcy0 := hcell2 k hlt
      have hcy := (hbw.cell (p := ⟨b2, off2 + k, none⟩) (by have := World.block_lt_of_cell? _ _ hcy0; simpa using this)).trans hcy0
      have HG := Lib.hid (getDN (l := r) (i := k) hlt)
      have hyN := HR4.out _ (List.getElem_mem hlt)
      obtain ⟨yv, hy⟩ : ∃ yv, r[k] = yv := ⟨_, rfl⟩
      rw [hy] at hcy HG hyN
      have hki : (k : Int) < (r.length : Int) := by omega
      have h16 := fallsTo_16 W X u k (by omega)
      have HFB := Lib.hid (show fallB W X u k = decide (lenX W yv < lenX W u) by unfold fallB; rw [HST.out, HG.out])
      have HFT := Lib.hid (show fallsTo W X u (k + 1) = if fallB W X u k = true then fallsTo W X u k ||| 2 ^ k else fallsTo W X u k from rfl)
      have q1 := pow_inM k (by omega)
      have q2 := pow_inM64 k (by omega)
      have q3 := or_wM k (by omega) (fallsTo W X u k) h16
      have HRT := Lib.hid (fun (w' : World) (hb : Below w.heap.size w w') => HR0.out.below hb)
      have HLT := Lib.hid hlt
      obtain ⟨F, hF⟩ : ∃ F, fallsTo W X u k = F := ⟨_, rfl⟩
      rw [hF] at q3 HFT h16 ⊢
      have HBXX := Lib.hid hbx
      have HBW := Lib.hid hbw
      have HYN := Lib.hid hyN
      by_cases hf : lenX W yv < lenX W u
      · have hfi : ((lenX W yv : Nat) : Int) < ((lenX W u : Nat) : Int) := by omega
        have HE := Lib.hid (show fallsTo W X u (k + 1) = F ||| 2 ^ k by rw [HFT.out, HFB.out, if_pos (by simpa using hf)])
        clear hy hcell2 hF hf hcy0 hbx hbw hyN hlt
        go_upto_region 5 with (fail)
        refine wp_region_flow (by kernel_rfl) [19, 20, 21, 22, 23, 24, 25] (by kernel_rfl) (by kernel_rfl) (by kernel_rfl) ExtB ExtB.refl (fun _ _ _ => ExtB.trans) (RFl5 u (lenX W yv) (lenX W u) true vW vP (.slice (some ⟨g, 0, none⟩) X.length cap) yv) ?_ ?_ ?_ ?_
        · intro j y wa wb hx hv
          match j, hv with
          | 0, hv => exact hv
          | 1, hv => exact hv
          | 2, hv => exact hv
          | 3, hv => exact hv
          | 4, hv => exact hv
          | 5, hv => exact hv
          | 6, hv => exact hv
          | _ + 7, _ => trivial
        · intro j y y' wx hj h hv
          match j, hj, h, hv with
          | 0, _, h, hv =>
            have e19 : y 19 = y' 19 := h 0 19 (.inr rfl) (by kernel_rfl)
            have hv' : RFl5 u (lenX W yv) (lenX W u) true vW vP (.slice (some ⟨g, 0, none⟩) X.length cap) yv 0 y wx := hv
            simp only [RFl5] at hv' ⊢
            rw [← e19]
            exact hv'
          | 1, _, h, hv =>
            have e20 : y 20 = y' 20 := h 1 20 (.inr rfl) (by kernel_rfl)
            have hv' : RFl5 u (lenX W yv) (lenX W u) true vW vP (.slice (some ⟨g, 0, none⟩) X.length cap) yv 1 y wx := hv
            simp only [RFl5] at hv' ⊢
            rw [← e20]
            exact hv'
          | 2, _, h, hv =>
            have e21 : y 21 = y' 21 := h 2 21 (.inr rfl) (by kernel_rfl)
            have hv' : RFl5 u (lenX W yv) (lenX W u) true vW vP (.slice (some ⟨g, 0, none⟩) X.length cap) yv 2 y wx := hv
            simp only [RFl5] at hv' ⊢
            rw [← e21]
            exact hv'
          | 3, _, h, hv =>
            have e22 : y 22 = y' 22 := h 3 22 (.inr rfl) (by kernel_rfl)
            have hv' : RFl5 u (lenX W yv) (lenX W u) true vW vP (.slice (some ⟨g, 0, none⟩) X.length cap) yv 3 y wx := hv
            simp only [RFl5] at hv' ⊢
            rw [← e22]
            exact hv'
          | 4, _, h, hv =>
            have e23 : y 23 = y' 23 := h 4 23 (.inr rfl) (by kernel_rfl)
            have hv' : RFl5 u (lenX W yv) (lenX W u) true vW vP (.slice (some ⟨g, 0, none⟩) X.length cap) yv 4 y wx := hv
            simp only [RFl5] at hv' ⊢
            rw [← e23]
            exact hv'
          | 5, _, h, hv =>
            have e24 : y 24 = y' 24 := h 5 24 (.inr rfl) (by kernel_rfl)
            have hv' : RFl5 u (lenX W yv) (lenX W u) true vW vP (.slice (some ⟨g, 0, none⟩) X.length cap) yv 5 y wx := hv
            simp only [RFl5] at hv' ⊢
            rw [← e24]
            exact hv'
          | 6, _, h, hv =>
            have e25 : y 25 = y' 25 := h 6 25 (.inr rfl) (by kernel_rfl)
            have hv' : RFl5 u (lenX W yv) (lenX W u) true vW vP (.slice (some ⟨g, 0, none⟩) X.length cap) yv 6 y wx := hv
            simp only [RFl5] at hv' ⊢
            rw [← e25]
            exact hv'
          | j + 7, hj, _, _ => exact absurd hj (by simp)
        · intro i o ho y wx hx hd hini
          match i, ho with
          | 0, ho =>
            obtain rfl := Option.some.inj ho
            have hbq := HBXX.out.below (((Below.refl _ _).drew).trans hx)
            have c0 := hbq.hh.at (i := 0) rfl
            have c1 := hbq.hh.at (i := 1) rfl
            have c2 := hbq.hh.at (i := 2) rfl
            refine rstep_value rfl (v := .agg #[vW, vP, (.slice (some ⟨g, 0, none⟩) X.length cap)]) (w' := wx) ?_ ⟨ExtB.refl _, rfl⟩
            · simp only [hole, List.foldl_cons, List.foldl_nil, List.setIfInBounds_toArray, List.set_cons_zero, List.set_cons_succ]
              go_simp
          | 1, ho =>
            obtain rfl := Option.some.inj ho
            refine rstep_value rfl (v := .int .i64 (yv : Nat)) (w' := wx) ?_ ⟨ExtB.refl _, rfl⟩
            · simp only [hole, List.foldl_cons, List.foldl_nil, List.setIfInBounds_toArray, List.set_cons_zero, List.set_cons_succ]
              go_simp
          | 2, ho =>
            obtain rfl := Option.some.inj ho
            have e19 : y 19 = .agg #[vW, vP, (.slice (some ⟨g, 0, none⟩) X.length cap)] := hd 0 (by kernel_rfl) (by decide)
            have e20 : y 20 = .int .i64 (yv : Nat) := hd 1 (by kernel_rfl) (by decide)
            have hbq := HBXX.out.below (((Below.refl _ _).drew).trans hx)
            refine rstep_call rfl (f := 29) (args := #[.agg #[vW, vP, (.slice (some ⟨g, 0, none⟩) X.length cap)], .int .i64 (yv : Nat)]) (w' := wx) ?_ (RL.out wx yv HYN.out (HRT.out wx hbq.hb)) ?_
            · simp only [hole, List.foldl_cons, List.foldl_nil, List.setIfInBounds_toArray, List.set_cons_zero, List.set_cons_succ]
              go_simp
            · rintro e w'' ⟨rfl, hb⟩
              exact ⟨_, rfl, hb, rfl⟩
          | 3, ho =>
            obtain rfl := Option.some.inj ho
            have hbq := HBXX.out.below (((Below.refl _ _).drew).trans hx)
            have c0 := hbq.hh.at (i := 0) rfl
            have c1 := hbq.hh.at (i := 1) rfl
            have c2 := hbq.hh.at (i := 2) rfl
            refine rstep_value rfl (v := .agg #[vW, vP, (.slice (some ⟨g, 0, none⟩) X.length cap)]) (w' := wx) ?_ ⟨ExtB.refl _, rfl⟩
            · simp only [hole, List.foldl_cons, List.foldl_nil, List.setIfInBounds_toArray, List.set_cons_zero, List.set_cons_succ]
              go_simp
          | 4, ho =>
            obtain rfl := Option.some.inj ho
            refine rstep_value rfl (v := .int .i64 (u : Nat)) (w' := wx) ?_ ⟨ExtB.refl _, rfl⟩
            · simp only [hole, List.foldl_cons, List.foldl_nil, List.setIfInBounds_toArray, List.set_cons_zero, List.set_cons_succ]
              go_simp
          | 5, ho =>
            obtain rfl := Option.some.inj ho
            have e22 : y 22 = .agg #[vW, vP, (.slice (some ⟨g, 0, none⟩) X.length cap)] := hd 3 (by kernel_rfl) (by decide)
            have e23 : y 23 = .int .i64 (u : Nat) := hd 4 (by kernel_rfl) (by decide)
            have hbq := HBXX.out.below (((Below.refl _ _).drew).trans hx)
            refine rstep_call rfl (f := 29) (args := #[.agg #[vW, vP, (.slice (some ⟨g, 0, none⟩) X.length cap)], .int .i64 (u : Nat)]) (w' := wx) ?_ (RL.out wx u HUN.out (HRT.out wx hbq.hb)) ?_
            · simp only [hole, List.foldl_cons, List.foldl_nil, List.setIfInBounds_toArray, List.set_cons_zero, List.set_cons_succ]
              go_simp
            · rintro e w'' ⟨rfl, hb⟩
              exact ⟨_, rfl, hb, rfl⟩
          | 6, ho =>
            obtain rfl := Option.some.inj ho
            have e21 : y 21 = .int .i64 (lenX W yv : Nat) := hd 2 (by kernel_rfl) (by decide)
            have e24 : y 24 = .int .i64 (lenX W u : Nat) := hd 5 (by kernel_rfl) (by decide)
            refine rstep_value rfl (v := .bool true) (w' := wx) ?_ ⟨ExtB.refl _, rfl⟩
            · simp only [hole, List.foldl_cons, List.foldl_nil, List.setIfInBounds_toArray, List.set_cons_zero, List.set_cons_succ]
              go_simp
          | _ + 7, ho => exact absurd ho (by simp)
        · intro y wx hx hd
          have e19 : y 19 = .agg #[vW, vP, (.slice (some ⟨g, 0, none⟩) X.length cap)] := hd 0 (by decide)
          have e20 : y 20 = .int .i64 (yv : Nat) := hd 1 (by decide)
          have e21 : y 21 = .int .i64 (lenX W yv : Nat) := hd 2 (by decide)
          have e22 : y 22 = .agg #[vW, vP, (.slice (some ⟨g, 0, none⟩) X.length cap)] := hd 3 (by decide)
          have e23 : y 23 = .int .i64 (u : Nat) := hd 4 (by decide)
          have e24 : y 24 = .int .i64 (lenX W u : Nat) := hd 5 (by decide)
          have e25 : y 25 = .bool true := hd 6 (by decide)
          clear hd
          have hbx9 := HBXX.out.below (((Below.refl _ _).drew).trans hx)
          have hb9 : Below wr.heap.size wr wx := ((Below.refl _ _).drew).trans hx
          simp only [hole, List.foldl_cons, List.foldl_nil, List.setIfInBounds_toArray, List.set_cons_zero, List.set_cons_succ, e19, e20, e21, e22, e23, e24, e25]
          clear e19 e20 e21 e22 e23 e24 e25 hx
          go_wp2
          go_roundw
          case rel => exact ⟨k + 1, by have := HLT.out; omega, by go_num, by rw [HE.out], hbx9, HBW.out.trans (hb9.mono (by have := HBW.out.size; simp at this; omega))⟩
          case measure => have := HLT.out; simp [intOf]; omega
      · have hfi : ¬ ((lenX W yv : Nat) : Int) < ((lenX W u : Nat) : Int) := by omega
        have HE := Lib.hid (show fallsTo W X u (k + 1) = F by rw [HFT.out, HFB.out, if_neg (by simpa using hf)])
        clear hy hcell2 hF hf q1 q2 q3 hcy0 hbx hbw hyN hlt
        go_upto_region 5 with (fail)
        refine wp_region_flow (by kernel_rfl) [19, 20, 21, 22, 23, 24, 25] (by kernel_rfl) (by kernel_rfl) (by kernel_rfl) ExtB ExtB.refl (fun _ _ _ => ExtB.trans) (RFl5 u (lenX W yv) (lenX W u) false vW vP (.slice (some ⟨g, 0, none⟩) X.length cap) yv) ?_ ?_ ?_ ?_
        · intro j y wa wb hx hv
          match j, hv with
          | 0, hv => exact hv
          | 1, hv => exact hv
          | 2, hv => exact hv
          | 3, hv => exact hv
          | 4, hv => exact hv
          | 5, hv => exact hv
          | 6, hv => exact hv
          | _ + 7, _ => trivial
        · intro j y y' wx hj h hv
          match j, hj, h, hv with
          | 0, _, h, hv =>
            have e19 : y 19 = y' 19 := h 0 19 (.inr rfl) (by kernel_rfl)
            have hv' : RFl5 u (lenX W yv) (lenX W u) false vW vP (.slice (some ⟨g, 0, none⟩) X.length cap) yv 0 y wx := hv
            simp only [RFl5] at hv' ⊢
            rw [← e19]
            exact hv'
          | 1, _, h, hv =>
            have e20 : y 20 = y' 20 := h 1 20 (.inr rfl) (by kernel_rfl)
            have hv' : RFl5 u (lenX W yv) (lenX W u) false vW vP (.slice (some ⟨g, 0, none⟩) X.length cap) yv 1 y wx := hv
            simp only [RFl5] at hv' ⊢
            rw [← e20]
            exact hv'
          | 2, _, h, hv =>
            have e21 : y 21 = y' 21 := h 2 21 (.inr rfl) (by kernel_rfl)
            have hv' : RFl5 u (lenX W yv) (lenX W u) false vW vP (.slice (some ⟨g, 0, none⟩) X.length cap) yv 2 y wx := hv
            simp only [RFl5] at hv' ⊢
            rw [← e21]
            exact hv'
          | 3, _, h, hv =>
            have e22 : y 22 = y' 22 := h 3 22 (.inr rfl) (by kernel_rfl)
            have hv' : RFl5 u (lenX W yv) (lenX W u) false vW vP (.slice (some ⟨g, 0, none⟩) X.length cap) yv 3 y wx := hv
            simp only [RFl5] at hv' ⊢
            rw [← e22]
            exact hv'
          | 4, _, h, hv =>
            have e23 : y 23 = y' 23 := h 4 23 (.inr rfl) (by kernel_rfl)
            have hv' : RFl5 u (lenX W yv) (lenX W u) false vW vP (.slice (some ⟨g, 0, none⟩) X.length cap) yv 4 y wx := hv
            simp only [RFl5] at hv' ⊢
            rw [← e23]
            exact hv'
          | 5, _, h, hv =>
            have e24 : y 24 = y' 24 := h 5 24 (.inr rfl) (by kernel_rfl)
            have hv' : RFl5 u (lenX W yv) (lenX W u) false vW vP (.slice (some ⟨g, 0, none⟩) X.length cap) yv 5 y wx := hv
            simp only [RFl5] at hv' ⊢
            rw [← e24]
            exact hv'
          | 6, _, h, hv =>
            have e25 : y 25 = y' 25 := h 6 25 (.inr rfl) (by kernel_rfl)
            have hv' : RFl5 u (lenX W yv) (lenX W u) false vW vP (.slice (some ⟨g, 0, none⟩) X.length cap) yv 6 y wx := hv
            simp only [RFl5] at hv' ⊢
            rw [← e25]
            exact hv'
          | j + 7, hj, _, _ => exact absurd hj (by simp)
        · intro i o ho y wx hx hd hini
          match i, ho with
          | 0, ho =>
            obtain rfl := Option.some.inj ho
            have hbq := HBXX.out.below (((Below.refl _ _).drew).trans hx)
            have c0 := hbq.hh.at (i := 0) rfl
            have c1 := hbq.hh.at (i := 1) rfl
            have c2 := hbq.hh.at (i := 2) rfl
            refine rstep_value rfl (v := .agg #[vW, vP, (.slice (some ⟨g, 0, none⟩) X.length cap)]) (w' := wx) ?_ ⟨ExtB.refl _, rfl⟩
            · simp only [hole, List.foldl_cons, List.foldl_nil, List.setIfInBounds_toArray, List.set_cons_zero, List.set_cons_succ]
              go_simp
          | 1, ho =>
            obtain rfl := Option.some.inj ho
            refine rstep_value rfl (v := .int .i64 (yv : Nat)) (w' := wx) ?_ ⟨ExtB.refl _, rfl⟩
            · simp only [hole, List.foldl_cons, List.foldl_nil, List.setIfInBounds_toArray, List.set_cons_zero, List.set_cons_succ]
              go_simp
          | 2, ho =>
            obtain rfl := Option.some.inj ho
            have e19 : y 19 = .agg #[vW, vP, (.slice (some ⟨g, 0, none⟩) X.length cap)] := hd 0 (by kernel_rfl) (by decide)
            have e20 : y 20 = .int .i64 (yv : Nat) := hd 1 (by kernel_rfl) (by decide)
            have hbq := HBXX.out.below (((Below.refl _ _).drew).trans hx)
            refine rstep_call rfl (f := 29) (args := #[.agg #[vW, vP, (.slice (some ⟨g, 0, none⟩) X.length cap)], .int .i64 (yv : Nat)]) (w' := wx) ?_ (RL.out wx yv HYN.out (HRT.out wx hbq.hb)) ?_
            · simp only [hole, List.foldl_cons, List.foldl_nil, List.setIfInBounds_toArray, List.set_cons_zero, List.set_cons_succ]
              go_simp
            · rintro e w'' ⟨rfl, hb⟩
              exact ⟨_, rfl, hb, rfl⟩
          | 3, ho =>
            obtain rfl := Option.some.inj ho
            have hbq := HBXX.out.below (((Below.refl _ _).drew).trans hx)
            have c0 := hbq.hh.at (i := 0) rfl
            have c1 := hbq.hh.at (i := 1) rfl
            have c2 := hbq.hh.at (i := 2) rfl
            refine rstep_value rfl (v := .agg #[vW, vP, (.slice (some ⟨g, 0, none⟩) X.length cap)]) (w' := wx) ?_ ⟨ExtB.refl _, rfl⟩
            · simp only [hole, List.foldl_cons, List.foldl_nil, List.setIfInBounds_toArray, List.set_cons_zero, List.set_cons_succ]
              go_simp
          | 4, ho =>
            obtain rfl := Option.some.inj ho
            refine rstep_value rfl (v := .int .i64 (u : Nat)) (w' := wx) ?_ ⟨ExtB.refl _, rfl⟩
            · simp only [hole, List.foldl_cons, List.foldl_nil, List.setIfInBounds_toArray, List.set_cons_zero, List.set_cons_succ]
              go_simp
          | 5, ho =>
            obtain rfl := Option.some.inj ho
            have e22 : y 22 = .agg #[vW, vP, (.slice (some ⟨g, 0, none⟩) X.length cap)] := hd 3 (by kernel_rfl) (by decide)
            have e23 : y 23 = .int .i64 (u : Nat) := hd 4 (by kernel_rfl) (by decide)
            have hbq := HBXX.out.below (((Below.refl _ _).drew).trans hx)
            refine rstep_call rfl (f := 29) (args := #[.agg #[vW, vP, (.slice (some ⟨g, 0, none⟩) X.length cap)], .int .i64 (u : Nat)]) (w' := wx) ?_ (RL.out wx u HUN.out (HRT.out wx hbq.hb)) ?_
            · simp only [hole, List.foldl_cons, List.foldl_nil, List.setIfInBounds_toArray, List.set_cons_zero, List.set_cons_succ]
              go_simp
            · rintro e w'' ⟨rfl, hb⟩
              exact ⟨_, rfl, hb, rfl⟩
          | 6, ho =>
            obtain rfl := Option.some.inj ho
            have e21 : y 21 = .int .i64 (lenX W yv : Nat) := hd 2 (by kernel_rfl) (by decide)
            have e24 : y 24 = .int .i64 (lenX W u : Nat) := hd 5 (by kernel_rfl) (by decide)
            refine rstep_value rfl (v := .bool false) (w' := wx) ?_ ⟨ExtB.refl _, rfl⟩
            · simp only [hole, List.foldl_cons, List.foldl_nil, List.setIfInBounds_toArray, List.set_cons_zero, List.set_cons_succ]
              go_simp
          | _ + 7, ho => exact absurd ho (by simp)
        · intro y wx hx hd
          have e19 : y 19 = .agg #[vW, vP, (.slice (some ⟨g, 0, none⟩) X.length cap)] := hd 0 (by decide)
          have e20 : y 20 = .int .i64 (yv : Nat) := hd 1 (by decide)
          have e21 : y 21 = .int .i64 (lenX W yv : Nat) := hd 2 (by decide)
          have e22 : y 22 = .agg #[vW, vP, (.slice (some ⟨g, 0, none⟩) X.length cap)] := hd 3 (by decide)
          have e23 : y 23 = .int .i64 (u : Nat) := hd 4 (by decide)
          have e24 : y 24 = .int .i64 (lenX W u : Nat) := hd 5 (by decide)
          have e25 : y 25 = .bool false := hd 6 (by decide)
          clear hd
          have hbx9 := HBXX.out.below (((Below.refl _ _).drew).trans hx)
          have hb9 : Below wr.heap.size wr wx := ((Below.refl _ _).drew).trans hx
          simp only [hole, List.foldl_cons, List.foldl_nil, List.setIfInBounds_toArray, List.set_cons_zero, List.set_cons_succ, e19, e20, e21, e22, e23, e24, e25]
          clear e19 e20 e21 e22 e23 e24 e25 hx
          go_wp2
          go_roundw
          case rel => exact ⟨k + 1, by have := HLT.out; omega, by go_num, by rw [HE.out], hbx9, HBW.out.trans (hb9.mono (by have := HBW.out.size; simp at this; omega))⟩
          case measure => have := HLT.out; simp [intOf]; omega
    · obtain rfl : k = r.length := by omega
      have hki : ¬ ((r.length : Nat) : Int) < (r.length : Int) := by omega
      have HBXX := Lib.hid hbx
      clear hbx hbw
      go_wp2
      go_ret
      exact ⟨rfl, HBXX.out.hb⟩
end Go.Proofs.Ytmlhecfhhhebnaa
