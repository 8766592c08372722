/- The reference's moves. -/
import Derived.Test.YtmlhecfhhhebnaaFd
namespace Go.Proofs.Ytmlhecfhhhebnaa
open Go.RowKit

def MvIs (K n s : Nat) (w : World) (e : Ending) (w' : World) : Prop := ∃ v, e = .returned v ∧ OwnI 3 w.heap.size w' v (toI (movesN K n s)) ∧ Below w.heap.size w w'
theorem OwnI.row1 {e : TypeId} {B : Nat} {w : World} {v : Value} {L : List Nat} (h : OwnI e B w v (toI L)) (hl : 1 ≤ L.length) : ∃ g cap, v = .slice (some ⟨g, 0, none⟩) L.length cap := by
  obtain ⟨g, cap, h'⟩ := h.row (show L.length = (L.length - 1) + 1 by omega)
  exact ⟨g, cap, by rw [h']; congr 1; omega⟩
theorem swapN_length (l : List Nat) (i j : Nat) : (swapN l i j).length = l.length := by simp [swapN]
theorem swapsI_length (m s : Nat) : ∀ (c : Nat) (l : List Nat), (swapsI m s c l).length = l.length
  | 0, _ => rfl
  | c + 1, l => by rw [swapsI, swapN_length, swapsI_length m s c l]
theorem swap_pk (H g cap k i j K n : Nat) (x y : Int) (l : List Nat) (w0 w : World) (ho : OwnI 3 H w (.slice (some ⟨g, 0, none⟩) k cap) (toI l)) (hl : l.length = k) (hb : Below H w0 w) (hg : Held w H 23 [.int .u8 (K : Nat), .int .i64 (n : Nat)]) (hi : i < k) (hj : j < k) (hx : x = (i : Int)) (hy : y = (j : Int)) :
    Calls Try.prog 88 #[.slice (some ⟨g, 0, none⟩) k cap, .int .i64 x, .int .i64 y] w fun e w' => e = .returned (.tuple #[]) ∧ OwnI 3 H w' (.slice (some ⟨g, 0, none⟩) k cap) (toI (swapN l i j)) ∧ Below H w0 w' ∧ Held w' H 23 [.int .u8 (K : Nat), .int .i64 (n : Nat)] := by
  subst hx hy hl
  have hne : H ≠ g := fun e => own_held_apart ho hg (by decide) (by rw [e]; rfl)
  have hge : H ≤ g := (ho.lt g rfl).1
  refine (swap_any H g cap i j l w ho hi hj).mono ?_
  rintro e w' ⟨rfl, ho', hs⟩
  exact ⟨rfl, ho', hs.below hb hge (Nat.le_of_lt hg.lt), hg.sm hs hne⟩
theorem movesN_65 (n s : Nat) : movesN 65 n s = swapN (List.range (n + 1)) s (s + 1) := by simp [movesN]
theorem movesN_66 (n s : Nat) (h : s + 1 ≠ n) : movesN 66 n s = swapN (swapN (List.range (2 * n)) s (s + 1)) (s + n) (s + 1 + n) := by simp [movesN, h]
theorem movesN_66' (n s : Nat) (h : s + 1 = n) : movesN 66 n s = swapN (List.range (2 * n)) s (s + n) := by simp [movesN, h]
theorem movesN_73 (n s : Nat) : movesN 73 n s = swapsI (2 * n) s n (List.range (2 * n)) := by simp [movesN]

set_option maxRecDepth 20000 in
set_option maxHeartbeats 2000000 in
theorem moves_65 (n s : Nat) (w : World) (hs : s < n) (hn : n ≤ 4) :
    Calls Try.prog 63 #[.agg #[.int .u8 (65 : Nat), .int .i64 (n : Nat)], .int .i64 (s : Nat)] w (MvIs 65 n s w) := by
  have hni : (n : Int) ≤ 12 := by omega
  have hb0 := (Below.refl w.heap.size w).alloc (Nat.le_refl _) (.cells #[.int .u8 (65 : Nat), .int .i64 (n : Nat)] 23)
  have hg0 := Held.made (w := w) (l := [.int .u8 (65 : Nat), .int .i64 (n : Nat)]) (t := 23) rfl
  obtain ⟨m, hm⟩ : ∃ m, n + 1 = m := ⟨_, rfl⟩
  have hmi : (n : Int) + 1 = (m : Int) := by omega
  have hm30 : m ≤ 30 := by omega
  have HMI := Lib.hid hmi
  have HM := Lib.hid hm
  have HB0 := Lib.hid hb0
  have HG0 := Lib.hid hg0
  clear hm hb0 hg0 hmi
  go_enter Try.func63, Try.ntmps63
  go_wp2
  rw [HMI.out]
  go_loopw [6, 19] (fun o ix wr => ∃ k : Nat, k ≤ m ∧ ix = .int .i64 k ∧ OwnI 3 w.heap.size wr o (toI (List.range k)) ∧ Below w.heap.size w wr ∧ Held wr w.heap.size 23 [.int .u8 (65 : Nat), .int .i64 (n : Nat)]) (fun _ i _ => m - (intOf i).toNat)
  case atStart => exact ⟨0, Nat.zero_le _, rfl, OwnI.nil _ _ _, HB0.out, HG0.out⟩
  case round =>
    obtain ⟨k, hk, rfl, ho, hb, hg⟩ := hrel
    by_cases hlt : k < m
    · have hki : (k : Int) < (m : Int) := by omega
      have hle := hb.size
      have HR := Lib.hid (List.range_succ (n := k))
      have HB := Lib.hid hb
      have HG := Lib.hid hg
      clear hb hg
      go_wp2_with (at_builtin; refine wpList_app1_at rfl _ _ rfl w.heap.size _ (toI (List.range k)) ((k : Nat) : Int) rfl (ho.alloc _) ⟨_, 0, none⟩ 1 rfl (cell_new1 _ _ _) (by rw [toI_length, List.length_range]; omega) (by simp; omega) ?_; intro v4 w4 ho4 hg4 hl4; have HO4 := Lib.hid ho4; have HG4 := Lib.hid hg4; clear ho4 hg4 hl4)
      refine ⟨⟨_, _, _, _, _, _, _, _, _, _, ⟨k + 1, by omega, ?_, by rw [HR.out, toI_append]; exact HO4.out, (HB.out.alloc hle _).grown HG4.out (by simp; omega) (fun j hj => (ho.lt j hj).1), (HG.out.alloc _).grown HG4.out (fun e => own_held_apart (World.ownsRow.alloc ho (.cells #[.int .i64 ((k : Nat) : Int)] 3)) (HG.out.alloc (.cells #[.int .i64 ((k : Nat) : Int)] 3)) (by decide) e.symm)⟩, rfl⟩, ?_⟩
      · push_cast; rfl
      · simp [intOf]; omega
    · obtain rfl : k = m := by omega
      have hki : ¬ (k : Int) < (k : Int) := by omega
      have hlen : (List.range k).length = k := List.length_range
      obtain ⟨g, cap, e6⟩ := ho.row1 (by rw [hlen]; have := HM.out; omega)
      rw [hlen] at e6
      subst e6
      have hgs := ho.blockEq
      have hne : w.heap.size ≠ g := fun e => own_held_apart ho hg (by decide) (by rw [e]; rfl)
      have c0 := hg.at (i := 0) rfl
      have c1 := hg.at (i := 1) rfl
      have HO := Lib.hid ho
      have HB := Lib.hid hb
      have HG := Lib.hid hg
      have HLEN := Lib.hid hlen
      clear ho hb hg hlen
      have CS := Lib.hid (swap_pk w.heap.size g cap k s (s + 1) 65 n s (s + 1) (List.range k) w wr HO.out HLEN.out HB.out HG.out (by have := HM.out; omega) (by have := HM.out; omega) rfl (by push_cast; rfl))
      go_wp2_with (go_at_call 88; refine CS.out.mono ?_; rintro e w5 ⟨rfl, ho5, hb5, hg5⟩; have c05 := hg5.at (i := 0) rfl; have HO5 := Lib.hid ho5; have HB5 := Lib.hid hb5; clear ho5 hb5 hg5)
      go_ret
      exact ⟨_, rfl, by rw [movesN_65, HM.out]; exact HO5.out, HB5.out⟩


set_option maxRecDepth 20000 in
set_option maxHeartbeats 2000000 in
theorem moves_66l (n s : Nat) (w : World) (hs : s < n) (hn : n ≤ 4) (h1 : s + 1 = n) :
    Calls Try.prog 63 #[.agg #[.int .u8 (66 : Nat), .int .i64 (n : Nat)], .int .i64 (s : Nat)] w (MvIs 66 n s w) := by
  have hni : (n : Int) ≤ 12 := by omega
  have hb0 := (Below.refl w.heap.size w).alloc (Nat.le_refl _) (.cells #[.int .u8 (66 : Nat), .int .i64 (n : Nat)] 23)
  have hg0 := Held.made (w := w) (l := [.int .u8 (66 : Nat), .int .i64 (n : Nat)]) (t := 23) rfl
  obtain ⟨m, hm⟩ : ∃ m, 2 * n = m := ⟨_, rfl⟩
  have hmi : 2 * (n : Int) = (m : Int) := by omega
  have hm30 : m ≤ 30 := by omega
  have HMI := Lib.hid hmi
  have HM := Lib.hid hm
  have HB0 := Lib.hid hb0
  have HG0 := Lib.hid hg0
  clear hm hb0 hg0 hmi
  go_enter Try.func63, Try.ntmps63
  go_wp2
  rw [HMI.out]
  go_loopw [6, 19] (fun o ix wr => ∃ k : Nat, k ≤ m ∧ ix = .int .i64 k ∧ OwnI 3 w.heap.size wr o (toI (List.range k)) ∧ Below w.heap.size w wr ∧ Held wr w.heap.size 23 [.int .u8 (66 : Nat), .int .i64 (n : Nat)]) (fun _ i _ => m - (intOf i).toNat)
  case atStart => exact ⟨0, Nat.zero_le _, rfl, OwnI.nil _ _ _, HB0.out, HG0.out⟩
  case round =>
    obtain ⟨k, hk, rfl, ho, hb, hg⟩ := hrel
    by_cases hlt : k < m
    · have hki : (k : Int) < (m : Int) := by omega
      have hle := hb.size
      have HR := Lib.hid (List.range_succ (n := k))
      have HB := Lib.hid hb
      have HG := Lib.hid hg
      clear hb hg
      go_wp2_with (at_builtin; refine wpList_app1_at rfl _ _ rfl w.heap.size _ (toI (List.range k)) ((k : Nat) : Int) rfl (ho.alloc _) ⟨_, 0, none⟩ 1 rfl (cell_new1 _ _ _) (by rw [toI_length, List.length_range]; omega) (by simp; omega) ?_; intro v4 w4 ho4 hg4 hl4; have HO4 := Lib.hid ho4; have HG4 := Lib.hid hg4; clear ho4 hg4 hl4)
      refine ⟨⟨_, _, _, _, _, _, _, _, _, _, ⟨k + 1, by omega, ?_, by rw [HR.out, toI_append]; exact HO4.out, (HB.out.alloc hle _).grown HG4.out (by simp; omega) (fun j hj => (ho.lt j hj).1), (HG.out.alloc _).grown HG4.out (fun e => own_held_apart (World.ownsRow.alloc ho (.cells #[.int .i64 ((k : Nat) : Int)] 3)) (HG.out.alloc (.cells #[.int .i64 ((k : Nat) : Int)] 3)) (by decide) e.symm)⟩, rfl⟩, ?_⟩
      · push_cast; rfl
      · simp [intOf]; omega
    · obtain rfl : k = m := by omega
      have hki : ¬ (k : Int) < (k : Int) := by omega
      have hlen : (List.range k).length = k := List.length_range
      obtain ⟨g, cap, e6⟩ := ho.row1 (by rw [hlen]; have := HM.out; omega)
      rw [hlen] at e6
      subst e6
      have hgs := ho.blockEq
      have hne : w.heap.size ≠ g := fun e => own_held_apart ho hg (by decide) (by rw [e]; rfl)
      have c0 := hg.at (i := 0) rfl
      have c1 := hg.at (i := 1) rfl
      have HO := Lib.hid ho
      have HB := Lib.hid hb
      have HG := Lib.hid hg
      have HLEN := Lib.hid hlen
      clear ho hb hg hlen
      have CS := Lib.hid (swap_pk w.heap.size g cap k s (s + n) 66 n s (s + n) (List.range k) w wr HO.out HLEN.out HB.out HG.out (by have := HM.out; omega) (by have := HM.out; omega) rfl (by push_cast; rfl))
      have hde : ((s : Int) == (n : Int) - 1) = true := by simp; omega
      have H1 := Lib.hid h1
      clear h1
      go_wp2_with (go_at_call 88; refine CS.out.mono ?_; rintro e w5 ⟨rfl, ho5, hb5, hg5⟩; have c05 := hg5.at (i := 0) rfl; have c15 := hg5.at (i := 1) rfl; have HO5 := Lib.hid ho5; have HB5 := Lib.hid hb5; have HG5 := Lib.hid hg5; clear ho5 hb5 hg5)
      go_ret
      exact ⟨_, rfl, by rw [movesN_66' n s H1.out, HM.out]; exact HO5.out, HB5.out⟩


set_option maxRecDepth 20000 in
set_option maxHeartbeats 2000000 in
theorem moves_66 (n s : Nat) (w : World) (hs : s < n) (hn : n ≤ 4) (h1 : s + 1 ≠ n) :
    Calls Try.prog 63 #[.agg #[.int .u8 (66 : Nat), .int .i64 (n : Nat)], .int .i64 (s : Nat)] w (MvIs 66 n s w) := by
  have hni : (n : Int) ≤ 12 := by omega
  have hb0 := (Below.refl w.heap.size w).alloc (Nat.le_refl _) (.cells #[.int .u8 (66 : Nat), .int .i64 (n : Nat)] 23)
  have hg0 := Held.made (w := w) (l := [.int .u8 (66 : Nat), .int .i64 (n : Nat)]) (t := 23) rfl
  obtain ⟨m, hm⟩ : ∃ m, 2 * n = m := ⟨_, rfl⟩
  have hmi : 2 * (n : Int) = (m : Int) := by omega
  have hm30 : m ≤ 30 := by omega
  have HMI := Lib.hid hmi
  have HM := Lib.hid hm
  have HB0 := Lib.hid hb0
  have HG0 := Lib.hid hg0
  clear hm hb0 hg0 hmi
  go_enter Try.func63, Try.ntmps63
  go_wp2
  rw [HMI.out]
  go_loopw [6, 19] (fun o ix wr => ∃ k : Nat, k ≤ m ∧ ix = .int .i64 k ∧ OwnI 3 w.heap.size wr o (toI (List.range k)) ∧ Below w.heap.size w wr ∧ Held wr w.heap.size 23 [.int .u8 (66 : Nat), .int .i64 (n : Nat)]) (fun _ i _ => m - (intOf i).toNat)
  case atStart => exact ⟨0, Nat.zero_le _, rfl, OwnI.nil _ _ _, HB0.out, HG0.out⟩
  case round =>
    obtain ⟨k, hk, rfl, ho, hb, hg⟩ := hrel
    by_cases hlt : k < m
    · have hki : (k : Int) < (m : Int) := by omega
      have hle := hb.size
      have HR := Lib.hid (List.range_succ (n := k))
      have HB := Lib.hid hb
      have HG := Lib.hid hg
      clear hb hg
      go_wp2_with (at_builtin; refine wpList_app1_at rfl _ _ rfl w.heap.size _ (toI (List.range k)) ((k : Nat) : Int) rfl (ho.alloc _) ⟨_, 0, none⟩ 1 rfl (cell_new1 _ _ _) (by rw [toI_length, List.length_range]; omega) (by simp; omega) ?_; intro v4 w4 ho4 hg4 hl4; have HO4 := Lib.hid ho4; have HG4 := Lib.hid hg4; clear ho4 hg4 hl4)
      refine ⟨⟨_, _, _, _, _, _, _, _, _, _, ⟨k + 1, by omega, ?_, by rw [HR.out, toI_append]; exact HO4.out, (HB.out.alloc hle _).grown HG4.out (by simp; omega) (fun j hj => (ho.lt j hj).1), (HG.out.alloc _).grown HG4.out (fun e => own_held_apart (World.ownsRow.alloc ho (.cells #[.int .i64 ((k : Nat) : Int)] 3)) (HG.out.alloc (.cells #[.int .i64 ((k : Nat) : Int)] 3)) (by decide) e.symm)⟩, rfl⟩, ?_⟩
      · push_cast; rfl
      · simp [intOf]; omega
    · obtain rfl : k = m := by omega
      have hki : ¬ (k : Int) < (k : Int) := by omega
      have hlen : (List.range k).length = k := List.length_range
      obtain ⟨g, cap, e6⟩ := ho.row1 (by rw [hlen]; have := HM.out; omega)
      rw [hlen] at e6
      subst e6
      have hgs := ho.blockEq
      have hne : w.heap.size ≠ g := fun e => own_held_apart ho hg (by decide) (by rw [e]; rfl)
      have c0 := hg.at (i := 0) rfl
      have c1 := hg.at (i := 1) rfl
      have HO := Lib.hid ho
      have HB := Lib.hid hb
      have HG := Lib.hid hg
      have HLEN := Lib.hid hlen
      clear ho hb hg hlen
      have CS := Lib.hid (swap_pk w.heap.size g cap k s (s + 1) 66 n s (s + 1) (List.range k) w wr HO.out HLEN.out HB.out HG.out (by have := HM.out; omega) (by have := HM.out; omega) rfl (by push_cast; rfl))
      have hde : ((s : Int) == (n : Int) - 1) = false := by simp; omega
      have H1 := Lib.hid h1
      clear h1
      go_wp2_with ((go_at_call 88; refine CS.out.mono ?_; rintro e w5 ⟨rfl, ho5, hb5, hg5⟩; have c05 := hg5.at (i := 0) rfl; have c15 := hg5.at (i := 1) rfl; have HO5 := Lib.hid ho5; have HB5 := Lib.hid hb5; have HG5 := Lib.hid hg5; clear ho5 hb5 hg5); have CT := Lib.hid (swap_pk w.heap.size g cap k (s + n) (s + 1 + n) 66 n (s + n) (s + 1 + n) (swapN (List.range k) s (s + 1)) w w5 HO5.out (by rw [swapN_length]; exact HLEN.out) HB5.out HG5.out (by have := HM.out; omega) (by have := HM.out; have := H1.out; omega) (by omega) (by omega)); clear CS)
      go_wp2_with (go_at_call 88; refine CT.out.mono ?_; rintro e w6 ⟨rfl, ho6, hb6, hg6⟩; have c06 := hg6.at (i := 0) rfl; have c16 := hg6.at (i := 1) rfl; have HO6 := Lib.hid ho6; have HB6 := Lib.hid hb6; have HG6 := Lib.hid hg6; clear ho6 hb6 hg6)
      go_ret
      exact ⟨_, rfl, by rw [movesN_66 n s H1.out, HM.out]; exact HO6.out, HB6.out⟩


set_option maxRecDepth 20000 in
set_option maxHeartbeats 2000000 in
theorem moves_73 (n s : Nat) (w : World) (hs : s < 2) (hn : n ≤ 12) (hn1 : 2 ≤ n) :
    Calls Try.prog 63 #[.agg #[.int .u8 (73 : Nat), .int .i64 (n : Nat)], .int .i64 (s : Nat)] w (MvIs 73 n s w) := by
  have hni : (n : Int) ≤ 12 := by omega
  have hb0 := (Below.refl w.heap.size w).alloc (Nat.le_refl _) (.cells #[.int .u8 (73 : Nat), .int .i64 (n : Nat)] 23)
  have hg0 := Held.made (w := w) (l := [.int .u8 (73 : Nat), .int .i64 (n : Nat)]) (t := 23) rfl
  obtain ⟨m, hm⟩ : ∃ m, 2 * n = m := ⟨_, rfl⟩
  have hmi : 2 * (n : Int) = (m : Int) := by omega
  have hm30 : m ≤ 30 := by omega
  have HMI := Lib.hid hmi
  have HM := Lib.hid hm
  have HB0 := Lib.hid hb0
  have HG0 := Lib.hid hg0
  clear hm hb0 hg0 hmi
  go_enter Try.func63, Try.ntmps63
  go_wp2
  rw [HMI.out]
  go_loopw [6, 19] (fun o ix wr => ∃ k : Nat, k ≤ m ∧ ix = .int .i64 k ∧ OwnI 3 w.heap.size wr o (toI (List.range k)) ∧ Below w.heap.size w wr ∧ Held wr w.heap.size 23 [.int .u8 (73 : Nat), .int .i64 (n : Nat)]) (fun _ i _ => m - (intOf i).toNat)
  case atStart => exact ⟨0, Nat.zero_le _, rfl, OwnI.nil _ _ _, HB0.out, HG0.out⟩
  case round =>
    obtain ⟨k, hk, rfl, ho, hb, hg⟩ := hrel
    by_cases hlt : k < m
    · have hki : (k : Int) < (m : Int) := by omega
      have hle := hb.size
      have HR := Lib.hid (List.range_succ (n := k))
      have HB := Lib.hid hb
      have HG := Lib.hid hg
      clear hb hg
      go_wp2_with (at_builtin; refine wpList_app1_at rfl _ _ rfl w.heap.size _ (toI (List.range k)) ((k : Nat) : Int) rfl (ho.alloc _) ⟨_, 0, none⟩ 1 rfl (cell_new1 _ _ _) (by rw [toI_length, List.length_range]; omega) (by simp; omega) ?_; intro v4 w4 ho4 hg4 hl4; have HO4 := Lib.hid ho4; have HG4 := Lib.hid hg4; clear ho4 hg4 hl4)
      refine ⟨⟨_, _, _, _, _, _, _, _, _, _, ⟨k + 1, by omega, ?_, by rw [HR.out, toI_append]; exact HO4.out, (HB.out.alloc hle _).grown HG4.out (by simp; omega) (fun j hj => (ho.lt j hj).1), (HG.out.alloc _).grown HG4.out (fun e => own_held_apart (World.ownsRow.alloc ho (.cells #[.int .i64 ((k : Nat) : Int)] 3)) (HG.out.alloc (.cells #[.int .i64 ((k : Nat) : Int)] 3)) (by decide) e.symm)⟩, rfl⟩, ?_⟩
      · push_cast; rfl
      · simp [intOf]; omega
    · obtain rfl : k = m := by omega
      have hki : ¬ (k : Int) < (k : Int) := by omega
      have hlen : (List.range k).length = k := List.length_range
      obtain ⟨g, cap, e6⟩ := ho.row1 (by rw [hlen]; have := HM.out; omega)
      rw [hlen] at e6
      subst e6
      have hgs := ho.blockEq
      have hne : w.heap.size ≠ g := fun e => own_held_apart ho hg (by decide) (by rw [e]; rfl)
      have c0 := hg.at (i := 0) rfl
      have c1 := hg.at (i := 1) rfl
      have HO := Lib.hid ho
      have HB := Lib.hid hb
      have HG := Lib.hid hg
      have HLEN := Lib.hid hlen
      clear ho hb hg hlen
      go_wp2
      go_loopw [8] (fun ix w2 => ∃ c i : Nat, c ≤ n ∧ i = s + 2 * c ∧ ix = .int .i64 (i : Nat) ∧ OwnI 3 w.heap.size w2 (.slice (some ⟨g, 0, none⟩) k cap) (toI (swapsI k s c (List.range k))) ∧ Below w.heap.size w w2 ∧ Held w2 w.heap.size 23 [.int .u8 (73 : Nat), .int .i64 (n : Nat)]) (fun ix _ => k + 2 - (intOf ix).toNat)
      case atStart => exact ⟨0, s, Nat.zero_le _, rfl, rfl, HO.out, HB.out, HG.out⟩
      case round =>
        obtain ⟨c, i, hc, hi, rfl, ho2, hb2, hg2⟩ := hrel
        by_cases hcn : c < n
        · have hik : i < k := by have := HM.out; omega
          have hiki : (i : Int) < (k : Int) := by omega
          have hk0 : ¬ (k : Int) = 0 := by omega
          have CS := Lib.hid (swap_pk w.heap.size g cap k i ((i + 1) % k) 73 n i (((i : Int) + 1) % (k : Int)) (swapsI k s c (List.range k)) w wr ho2 (by rw [swapsI_length]; exact HLEN.out) hb2 hg2 hik (Nat.mod_lt _ (by omega)) rfl (by push_cast; rfl))
          have HSW := Lib.hid (show swapsI k s (c + 1) (List.range k) = swapN (swapsI k s c (List.range k)) i ((i + 1) % k) by rw [swapsI, hi])
          have HI := Lib.hid hi
          clear ho2 hb2 hg2 hi
          go_wp2_with (go_at_call 88; refine CS.out.mono ?_; rintro e w5 ⟨rfl, ho5, hb5, hg5⟩; have c05 := hg5.at (i := 0) rfl; have c15 := hg5.at (i := 1) rfl; have HO5 := Lib.hid ho5; have HB5 := Lib.hid hb5; have HG5 := Lib.hid hg5; clear ho5 hb5 hg5)
          refine ⟨⟨c + 1, i + 2, by omega, by have := HI.out; omega, by push_cast; rfl, by rw [HSW.out]; exact HO5.out, HB5.out, HG5.out⟩, ?_⟩
          simp [intOf]; omega
        · obtain rfl : c = n := by omega
          have hik : ¬ (i : Int) < (k : Int) := by have := HM.out; omega
          have c05 := hg2.at (i := 0) rfl
          have HO2 := Lib.hid ho2
          have HB2 := Lib.hid hb2
          clear ho2 hb2 hg2
          go_wp2
          go_ret
          exact ⟨_, rfl, by rw [movesN_73, HM.out]; exact HO2.out, HB2.out⟩


theorem moves_any (K n s : Nat) (w : World) (h : (K = 65 ∧ s < n ∧ n ≤ 4) ∨ (K = 66 ∧ s < n ∧ n ≤ 4) ∨ (K = 73 ∧ s < 2 ∧ n ≤ 12 ∧ 2 ≤ n)) :
    Calls Try.prog 63 #[.agg #[.int .u8 (K : Nat), .int .i64 (n : Nat)], .int .i64 (s : Nat)] w (MvIs K n s w) := by
  rcases h with ⟨rfl, h1, h2⟩ | ⟨rfl, h1, h2⟩ | ⟨rfl, h1, h2, h3⟩
  · exact moves_65 n s w h1 h2
  · by_cases he : s + 1 = n
    · exact moves_66l n s w h1 h2 he
    · exact moves_66 n s w h1 h2 he
  · exact moves_73 n s w h1 h2 h3
end Go.Proofs.Ytmlhecfhhhebnaa
