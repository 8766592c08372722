/- The reference table's Length, Number, Back, Falls: the walks. -/
import Derived.Test.YtmlhecfhhhebnaaDoorEj
import Derived.Deep.QuietTactic
import Derived.BigQuiet
namespace Go.Proofs.YtmlhecfhhhebnaaDoor
open Go.RowKit

/-- A value of the reference's table, with its words and products. -/
def RT (W X : List (List Nat)) (w : World) (v : Value) : Prop :=
  ∃ (vW vP vX : Value) (P : List (List Nat)), v = .agg #[vW, vP, vX] ∧ RowsF (fun _ => True) 0 w vW W ∧ RowsF (fun _ => True) 0 w vP P ∧ RowsF (fun _ => True) 0 w vX X
theorem RTab.rt {K n : Nat} {w : World} {v : Value} (h : RTab K n w v) : RT (wordsG K n) (nextG K n) w v := h
theorem RT.below {W X : List (List Nat)} {w w' : World} {v : Value} (h : RT W X w v) (hb : Below w.heap.size w w') : RT W X w' v := by
  obtain ⟨vW, vP, vX, P, rfl, h1, h2, h3⟩ := h
  exact ⟨vW, vP, vX, P, rfl, h1.kept (S' := fun _ => True) (Sm.of_below hb) (fun _ _ => trivial) (fun _ _ => trivial), h2.kept (S' := fun _ => True) (Sm.of_below hb) (fun _ _ => trivial) (fun _ _ => trivial), h3.kept (S' := fun _ => True) (Sm.of_below hb) (fun _ _ => trivial) (fun _ _ => trivial)⟩

set_option maxRecDepth 20000 in
set_option maxHeartbeats 1000000 in
theorem RLength_any {m N : Nat} {W X : List (List Nat)} (v : Value) (u : Nat) (w : World) (ht : RT W X w v) (hk : Tk m N W X) (hu : u < N) :
    Calls Tryd.prog 31 #[v, .int .i64 (u : Nat)] w fun e w' => e = .returned (.int .i64 ((lenX W u : Nat) : Int)) ∧ Below w.heap.size w w' := by
  have hul : u < W.length := by rw [hk.lw]; exact hu
  have hb0 : Below w.heap.size w (w.alloc (.cells #[.int .i64 0] 3)) := (Below.refl _ _).alloc (Nat.le_refl _) _
  have hr := ht
  obtain ⟨vW, vP, vX, P, rfl, hW, _, _⟩ := ht
  obtain ⟨vW', vP', vX', P', e', hW', _, _⟩ := hr.below ((Below.refl _ _).alloc (Nat.le_refl _) (.cells #[vW, vP, vX] 36))
  obtain ⟨rfl, rfl, rfl⟩ : vW = vW' ∧ vP = vP' ∧ vX = vX' := by simpa using e'
  obtain ⟨g, cap, ra, rc, e, hgc, hrc, _, hrow⟩ := hW'.cells u hul
  have HBB := Lib.hid ((Below.refl w.heap.size w).alloc (Nat.le_refl _) (.cells #[vW, vP, vX] 36))
  subst e
  have HL := Lib.hid (show lenX W u = (W[u]).length by unfold lenX; rw [getDL hul])
  have hxX : (u : Int) < (W.length : Int) := by rw [hk.lw]; omega
  clear hW' hW hrow hk hr e' hb0
  go_enter Tryd.func31, Tryd.ntmps31
  go_wp2
  go_ret
  exact ⟨ret_int (by rw [HL.out]), HBB.out⟩

/-- The table's box behind the first operation. -/
structure BoxI (H : Nat) (vW vP vX : Value) (w wr : World) : Prop where
  hh : Held wr H 36 [vW, vP, vX]
  hb : Below w.heap.size w wr
theorem BoxI.below {H : Nat} {vW vP vX : Value} {w a b : World} (h : BoxI H vW vP vX w a) (hb : Below a.heap.size a b) : BoxI H vW vP vX w b :=
  ⟨h.hh.below hb h.hh.lt, h.hb.trans (hb.mono h.hb.size)⟩
theorem BoxI.made (vW vP vX : Value) (w : World) : BoxI w.heap.size vW vP vX w (w.alloc (.cells #[vW, vP, vX] 36)) :=
  ⟨Held.made (l := [vW, vP, vX]) (by simp), (Below.refl _ _).alloc (Nat.le_refl _) _⟩

set_option maxRecDepth 20000 in
set_option maxHeartbeats 2000000 in
theorem RNumber_any {m N : Nat} {W X : List (List Nat)} (vt : Value) (u : Nat) (v : Value) (ws : List Nat) (w : World) (ht : RT W X w vt) (hk : Tk m N W X) (hv : Ints w v (toI ws)) (hu : u < N) (hws : ∀ s ∈ ws, s < m) :
    Calls Tryd.prog 14 #[vt, .int .i64 (u : Nat), v] w fun e w' => e = .returned (.int .i64 ((walkX X u ws : Nat) : Int)) ∧ Below w.heap.size w w' := by
  have hr := ht
  obtain ⟨vW, vP, vX, P, rfl, hW, _, _⟩ := ht
  have HBX := Lib.hid (BoxI.made vW vP vX w)
  obtain ⟨a, c, rfl, hlen, hcl, hc⟩ := (hv.below HBX.out.hb).openN
  have HCC := Lib.hid hc
  have HK := Lib.hid hk
  obtain ⟨vW', vP', vX', P', e', _, _, hX'⟩ := hr.below HBX.out.hb
  obtain ⟨rfl, rfl, rfl⟩ : vW = vW' ∧ vP = vP' ∧ vX = vX' := by simpa using e'
  have HXX := Lib.hid hX'
  have HWS := Lib.hid hws
  have hN := hk.small
  obtain ⟨aX, cX, eX⟩ := hX'.form
  clear hv hc hk hws hr e' hW hX'
  subst eX
  go_enter Tryd.func14, Tryd.ntmps14
  go_wp2
  go_loop [1, 11] (fun uv ix => ∃ k : Nat, k ≤ ws.length ∧ ix = .int .i64 k ∧ uv = .int .i64 ((walkX X u (ws.take k) : Nat) : Int)) (fun _ i => ws.length - (intOf i).toNat)
  case atStart => exact ⟨0, Nat.zero_le _, rfl, rfl⟩
  case round =>
    obtain ⟨k, hkl, rfl, rfl⟩ := hrel
    by_cases hlt : k < ws.length
    · obtain ⟨b, off, rfl, hbl, hcell⟩ := HCC.out (ne_nil_of_lt hlt)
      have hcx := hcell k hlt
      have hki : (k : Int) < (ws.length : Int) := by omega
      have hsm := HWS.out _ (List.getElem_mem hlt)
      have hun := HK.out.walk (ws.take k) u hu (fun x hx => HWS.out x (List.mem_of_mem_take hx))
      have HST := Lib.hid (walkX_take (X := X) (u := u) k hlt)
      obtain ⟨x, hx⟩ : ∃ x, walkX X u (ws.take k) = x := ⟨_, rfl⟩
      obtain ⟨s, hs⟩ : ∃ s, ws[k] = s := ⟨_, rfl⟩
      rw [hs] at hcx hsm HST
      rw [hx] at hun HST
      obtain ⟨r, hr1, hr2, hr3, hr4⟩ := HK.out.rowAt hun
      obtain ⟨g, cap, ra, rc, e, hgc, hrc, _, hrow⟩ := HXX.out.cells x (by rw [HK.out.lx]; exact hun)
      have HR := Lib.hid (show stepX X x s = r.getD s 0 by unfold stepX; rw [hr2])
      rw [hr1] at hgc hrc hrow
      obtain ⟨b2, off2, rfl, hcell2⟩ := hrow (by omega)
      have hcy := hcell2 s (by omega)
      have HG := Lib.hid (getDN (l := r) (i := s) (by omega))
      obtain ⟨y, hy⟩ : ∃ y, r[s]'(by omega) = y := ⟨_, rfl⟩
      rw [hy] at hcy HG
      obtain ⟨rfl, _, rfl⟩ := Value.slice.inj e
      have hxX : (x : Int) < (X.length : Int) := by rw [HK.out.lx]; omega
      have hsr : (s : Int) < (r.length : Int) := by omega
      rw [hx]
      clear hx hs hr1 hr2 hr3 hr4 hrow hcell2 hcell hy e
      go_wp2
      go_round
      case rel => exact ⟨k + 1, by omega, by go_num, by rw [HST.out, HR.out, HG.out]⟩
      case measure => simp [intOf]; omega
    · obtain rfl : k = ws.length := by omega
      have hki : ¬ ((ws.length : Nat) : Int) < (ws.length : Int) := by omega
      go_wp2
      go_ret
      exact ⟨rfl, HBX.out.hb⟩

def RFl5 (u a b : Nat) (bb : Bool) (vW vP vX : Value) (y0 : Nat) : Nat → (Nat → Value) → World → Prop
  | 0, y, _ => y 19 = .agg #[vW, vP, vX]
  | 1, y, _ => y 20 = .int .i64 (y0 : Nat)
  | 2, y, _ => y 21 = .int .i64 (a : Nat)
  | 3, y, _ => y 22 = .agg #[vW, vP, vX]
  | 4, y, _ => y 23 = .int .i64 (u : Nat)
  | 5, y, _ => y 24 = .int .i64 (b : Nat)
  | 6, y, _ => y 25 = .bool bb
  | _, _, _ => True

end Go.Proofs.YtmlhecfhhhebnaaDoor
