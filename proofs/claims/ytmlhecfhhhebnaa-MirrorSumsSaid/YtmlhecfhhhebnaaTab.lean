/- The table read: walk, length, word. -/
import Derived.Test.YtmlhecfhhhebnaaAll
import Derived.Test.YtmlhecfhhhebnaaEq
namespace Go.Proofs.Ytmlhecfhhhebnaa
open Go.RowKit

def stepX (X : List (List Nat)) (u s : Nat) : Nat := (X.getD u []).getD s 0
def walkX (X : List (List Nat)) (u : Nat) (w : List Nat) : Nat := w.foldl (stepX X) u
def lenX (W : List (List Nat)) (u : Nat) : Nat := (W.getD u []).length
/-- A table of m mirrors and N elements. -/
structure Tk (m N : Nat) (W X : List (List Nat)) : Prop where
  lw : W.length = N
  lx : X.length = N
  row : ∀ r ∈ X, r.length = m
  lt : ∀ r ∈ X, ∀ v ∈ r, v < N
  short : ∀ w ∈ W, w.length ≤ 12
  letter : ∀ w ∈ W, ∀ s ∈ w, s < m
  small : N ≤ 120
  pos : 0 < N
  m4 : m ≤ 4
section
variable {m N : Nat} {W X : List (List Nat)}
theorem Tk.rowAt (h : Tk m N W X) {u : Nat} (hu : u < N) : ∃ r, X[u]'(by rw [h.lx]; exact hu) = r ∧ X.getD u [] = r ∧ r.length = m ∧ ∀ v ∈ r, v < N := by
  have hul : u < X.length := by rw [h.lx]; exact hu
  have hm := List.getElem_mem hul
  exact ⟨X[u], rfl, by simp [List.getD, List.getElem?_eq_getElem hul], h.row _ hm, h.lt _ hm⟩
theorem Tk.step (h : Tk m N W X) {u s : Nat} (hu : u < N) (hs : s < m) : stepX X u s < N := by
  obtain ⟨r, _, e, hl, hlt⟩ := h.rowAt hu
  unfold stepX
  rw [e]
  have hs' : s < r.length := by omega
  rw [show r.getD s 0 = r[s] by simp [List.getD, List.getElem?_eq_getElem hs']]
  exact hlt _ (List.getElem_mem hs')
theorem Tk.walk (h : Tk m N W X) : ∀ (w : List Nat) (u : Nat), u < N → (∀ s ∈ w, s < m) → walkX X u w < N
  | [], u, hu, _ => hu
  | s :: w, u, hu, hw => by
    show walkX X (stepX X u s) w < N
    exact h.walk w _ (h.step hu (hw s List.mem_cons_self)) fun x hx => hw x (List.mem_cons_of_mem _ hx)
theorem walkX_take {X : List (List Nat)} {u : Nat} {w : List Nat} (k : Nat) (hk : k < w.length) : walkX X u (w.take (k + 1)) = stepX X (walkX X u (w.take k)) w[k] := by
  unfold walkX
  rw [take_succ' w k hk, List.foldl_append]; rfl
end
theorem getDN {l : List Nat} {i : Nat} (h : i < l.length) : l.getD i 0 = l[i] := by simp [List.getD, List.getElem?_eq_getElem h]
theorem getDL {l : List (List Nat)} {i : Nat} (h : i < l.length) : l.getD i [] = l[i] := by simp [List.getD, List.getElem?_eq_getElem h]
/-- A row of a slice of rows, its cells too. -/
theorem RowsF.cells {S : Nat → Prop} {B : Nat} {w : World} {v : Value} {ls : List (List Nat)} (h : RowsF S B w v ls) (i : Nat) (hi : i < ls.length) :
    ∃ g cap a c, v = .slice (some ⟨g, 0, none⟩) ls.length cap ∧ w.cell? ⟨g, i, none⟩ = some (.slice a (ls[i]).length c) ∧ (ls[i]).length ≤ c ∧ Ints w (.slice a (ls[i]).length c) (toI ls[i]) ∧
      (0 < (ls[i]).length → ∃ b off, a = some ⟨b, off, none⟩ ∧ ∀ j (hj : j < (ls[i]).length), w.cell? ⟨b, off + j, none⟩ = some (.int .i64 (((ls[i])[j] : Nat) : Int))) := by
  obtain ⟨g, cap, u, e, _, _, hc, hf⟩ := h.at i hi
  obtain ⟨a, c, e2, h1, h2, h3⟩ := hf
  rw [toI_length] at e2 h2
  subst e2
  refine ⟨g, cap, a, c, e, hc, h2, ?_, fun hp => ?_⟩
  · have := Fz.ints (S := S) (w := w) (v := .slice a (ls[i]).length c) (xs := toI ls[i]) ⟨a, c, by rw [toI_length], h1, by rw [toI_length]; exact h2, fun hne => by
      obtain ⟨b, off, r1, r2, r3, r4⟩ := h3 hne
      exact ⟨b, off, r1, r2, r3, r4⟩⟩
    exact this
  · obtain ⟨b, off, rfl, _, _, hcell⟩ := h3 (fun e => by have := congrArg List.length e; rw [toI_length] at this; simp at this; rw [this] at hp; simp at hp)
    exact ⟨b, off, rfl, fun j hj => by rw [hcell j (by rw [toI_length]; exact hj), toI_getElem]⟩

set_option maxRecDepth 20000 in
set_option maxHeartbeats 1000000 in
theorem walk_any {K n m N : Nat} {W X : List (List Nat)} (bT u : Nat) (v : Value) (ws : List Nat) (w : World) (ht : TabIs K n W X w bT) (hk : Tk m N W X) (hv : Ints w v (toI ws)) (hu : u < N) (hws : ∀ s ∈ ws, s < m) :
    Calls Try.prog 61 #[.pointer (some ⟨bT, 0, none⟩), .int .i64 (u : Nat), v] w fun e w' => e = .returned (.int .i64 ((walkX X u ws : Nat) : Int)) ∧ w = w' := by
  obtain ⟨a, c, rfl, hlen, hcl, hc⟩ := hv.openN
  have HCC := Lib.hid hc
  have HK := Lib.hid hk
  have HT := Lib.hid ht
  have HWS := Lib.hid hws
  have hN := hk.small
  clear hv hc ht hk hws
  go_enter Try.func61, Try.ntmps61
  go_wp2
  go_loop [1, 11] (fun uv ix => ∃ k : Nat, k ≤ ws.length ∧ ix = .int .i64 k ∧ uv = .int .i64 ((walkX X u (ws.take k) : Nat) : Int)) (fun _ i => ws.length - (intOf i).toNat)
  case atStart => exact ⟨0, Nat.zero_le _, rfl, rfl⟩
  case round =>
    obtain ⟨k, hkl, rfl, rfl⟩ := hrel
    by_cases hlt : k < ws.length
    · obtain ⟨b, off, rfl, hbl, hcell⟩ := HCC.out (ne_nil_of_lt hlt)
      have hcx := hcell k hlt
      have hsm := HWS.out _ (List.getElem_mem hlt)
      have hun := HK.out.walk (ws.take k) u hu (fun x hx => HWS.out x (List.mem_of_mem_take hx))
      have HST := Lib.hid (walkX_take (X := X) (u := u) k hlt)
      obtain ⟨x, hx⟩ : ∃ x, walkX X u (ws.take k) = x := ⟨_, rfl⟩
      obtain ⟨s, hs⟩ : ∃ s, ws[k] = s := ⟨_, rfl⟩
      rw [hs] at hcx hsm HST
      rw [hx] at hun HST
      obtain ⟨vW, vX, vM, hh, _, hX⟩ := HT.out
      obtain ⟨r, hr1, hr2, hr3, hr4⟩ := HK.out.rowAt hun
      obtain ⟨g, cap, ra, rc, e, hgc, hrc, _, hrow⟩ := hX.cells x (by rw [HK.out.lx]; exact hun)
      have HR := Lib.hid (show stepX X x s = r.getD s 0 by unfold stepX; rw [hr2])
      rw [hr1] at hgc hrc hrow
      obtain ⟨b2, off2, rfl, hcell2⟩ := hrow (by omega)
      have hcy := hcell2 s (by omega)
      have HG := Lib.hid (getDN (l := r) (i := s) (by omega))
      obtain ⟨y, hy⟩ : ∃ y, r[s]'(by omega) = y := ⟨_, rfl⟩
      rw [hy] at hcy HG
      subst e
      have ct := hh.at (i := 3) rfl
      have hxX : (x : Int) < (X.length : Int) := by rw [HK.out.lx]; omega
      have hsr : (s : Int) < (r.length : Int) := by omega
      rw [hx]
      clear hx hs hh hX hr1 hr2 hr3 hr4 hrow hcell2 hcell hy
      go_wp2
      go_round
      case rel => exact ⟨k + 1, by omega, by go_num, by rw [HST.out, HR.out, HG.out]⟩
      case measure => simp [intOf]; omega
    · obtain rfl : k = ws.length := by omega
      go_wp2
      go_ret
      exact ⟨rfl, rfl⟩

set_option maxRecDepth 20000 in
set_option maxHeartbeats 1000000 in
theorem length_any {K n m N : Nat} {W X : List (List Nat)} (bT u : Nat) (w : World) (ht : TabIs K n W X w bT) (hk : Tk m N W X) (hu : u < N) :
    Calls Try.prog 67 #[.pointer (some ⟨bT, 0, none⟩), .int .i64 (u : Nat)] w fun e w' => e = .returned (.int .i64 ((lenX W u : Nat) : Int)) ∧ w = w' := by
  have hul : u < W.length := by rw [hk.lw]; exact hu
  obtain ⟨vW, vX, vM, hh, hW, _⟩ := ht
  obtain ⟨g, cap, ra, rc, e, hgc, hrc, _, hrow⟩ := hW.cells u hul
  have ct := hh.at (i := 2) rfl
  subst e
  have HL := Lib.hid (show lenX W u = (W[u]).length by unfold lenX; rw [getDL hul])
  have hxX : (u : Int) < (W.length : Int) := by rw [hk.lw]; omega
  clear hh hW hrow hk
  go_enter Try.func67, Try.ntmps67
  go_wp2
  go_ret
  exact ⟨ret_int (by rw [HL.out]), rfl⟩

set_option maxRecDepth 20000 in
set_option maxHeartbeats 1000000 in
theorem word_any {K n m N : Nat} {W X : List (List Nat)} (bT u : Nat) (w : World) (ht : TabIs K n W X w bT) (hk : Tk m N W X) (hu : u < N) :
    Calls Try.prog 60 #[.pointer (some ⟨bT, 0, none⟩), .int .i64 (u : Nat)] w fun e w' => ∃ v, e = .returned v ∧ OwnI 3 w.heap.size w' v (toI (W.getD u [])) ∧ Below w.heap.size w w' := by
  have hul : u < W.length := by rw [hk.lw]; exact hu
  obtain ⟨vW, vX, vM, hh, hW, _⟩ := ht
  obtain ⟨g, cap, ra, rc, e, hgc, hrc, hin, hrow⟩ := hW.cells u hul
  have ct := hh.at (i := 2) rfl
  subst e
  have C := Lib.hid (Clone_any _ _ w hin)
  have HL := Lib.hid (getDL (l := W) (i := u) hul)
  have hxX : (u : Int) < (W.length : Int) := by rw [hk.lw]; omega
  clear hh hW hrow hk hin
  go_enter Try.func60, Try.ntmps60
  go_wp2_with (go_at_call 35; refine C.out.mono ?_; rintro e w2 ⟨v2, rfl, ho2, hb2⟩)
  go_ret
  exact ⟨_, rfl, by rw [HL.out]; exact ho2, hb2⟩
end Go.Proofs.Ytmlhecfhhhebnaa
