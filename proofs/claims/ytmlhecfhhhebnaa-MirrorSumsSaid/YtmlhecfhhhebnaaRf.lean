/- The reference's small functions: swap, after, same, find. -/
import Derived.Test.YtmlhecfhhhebnaaRd
import Derived.Laws.OwnMore
import Derived.RangeFuncBox
namespace Go.Proofs.Ytmlhecfhhhebnaa
open Go.RowKit

section
variable {e : TypeId} {B : Nat} {w : World} {v : Value}

theorem OwnI.row {k : Nat} {L : List Nat} (h : OwnI e B w v (toI L)) (hl : L.length = k + 1) : ∃ g cap, v = .slice (some ⟨g, 0, none⟩) (k + 1) cap := by
  have h' : w.ownsRow B e 1 v (k + 1) ((toI L).map (Value.int .i64)) := by
    have := h
    unfold OwnI at this
    rwa [toI_length, hl] at this
  exact ownsRow_succ h'
theorem OwnI.cellN {g n cap : Nat} {L : List Nat} (h : OwnI e B w (.slice (some ⟨g, 0, none⟩) n cap) (toI L)) (j : Nat) (hj : j < L.length) : w.cell? ⟨g, j, none⟩ = some (.int .i64 ((L[j] : Nat) : Int)) := by
  obtain ⟨h1, h2⟩ := h
  rcases h2 with ⟨h2, _⟩ | ⟨g', cap', cur, h2, hg, hh, r⟩
  · cases h2
  · obtain ⟨e1, rfl, rfl⟩ := Value.slice.inj h2
    obtain rfl : g = g' := by simpa using e1
    have hown : w.ownsRow B e 1 (.slice (some ⟨g, 0, none⟩) (toI L).length cap) (toI L).length ((toI L).map (Value.int .i64)) := ⟨h1, .inr ⟨g, cap, cur, rfl, hg, hh, r⟩⟩
    rw [World.ownsRow.cellAt hown j (by rw [toI_length]; omega)]
    have hj' : j < (toI L).length := by rw [toI_length]; exact hj
    simp [List.getElem?_eq_getElem hj, toI]
theorem OwnI.frozenN {g n cap : Nat} {xs : List Int} (h : OwnI e B w (.slice (some ⟨g, 0, none⟩) n cap) xs) (j : Nat) : w.frozen? ⟨g, j, none⟩ = false := by
  obtain ⟨h1, h2⟩ := h
  rcases h2 with ⟨h2, _⟩ | ⟨g', cap', cur, h2, hg, hh, r⟩
  · cases h2
  · obtain ⟨e1, rfl, rfl⟩ := Value.slice.inj h2
    obtain rfl : g = g' := by simpa using e1
    have hown : w.ownsRow B e 1 (.slice (some ⟨g, 0, none⟩) xs.length cap) xs.length (xs.map (Value.int .i64)) := ⟨h1, .inr ⟨g, cap, cur, rfl, hg, hh, r⟩⟩
    exact World.ownsRow.frozenAt hown j
theorem OwnI.storedN {g n cap : Nat} {L : List Nat} (h : OwnI e B w (.slice (some ⟨g, 0, none⟩) n cap) (toI L)) (j x : Nat) : OwnI e B (w.setCell ⟨g, j, none⟩ (.int .i64 (x : Int))) (.slice (some ⟨g, 0, none⟩) n cap) (toI (L.set j x)) := by
  obtain ⟨h1, h2⟩ := h
  rcases h2 with ⟨h2, _⟩ | ⟨g', cap', cur, h2, hg, hh, r⟩
  · cases h2
  · obtain ⟨e1, rfl, rfl⟩ := Value.slice.inj h2
    obtain rfl : g = g' := by simpa using e1
    have hown : w.ownsRow B e 1 (.slice (some ⟨g, 0, none⟩) (toI L).length cap) (toI L).length ((toI L).map (Value.int .i64)) := ⟨h1, .inr ⟨g, cap, cur, rfl, hg, hh, r⟩⟩
    have := World.ownsRow.stored hown j (.int .i64 (x : Int))
    unfold OwnI
    have e1 : (toI (L.set j x)).length = (toI L).length := by simp [toI]
    have e2 : (toI (L.set j x)).map (Value.int .i64) = ((toI L).map (Value.int .i64)).set j (.int .i64 (x : Int)) := by simp [toI, List.map_set]
    rw [e1, e2]
    exact this.1
theorem OwnI.blockEq {g n cap : Nat} {xs : List Int} (h : OwnI e B w (.slice (some ⟨g, 0, none⟩) n cap) xs) : B ≤ g ∧ g < w.heap.size := h.lt g rfl
end

set_option maxRecDepth 20000 in
set_option maxHeartbeats 1000000 in
theorem swap_any (B g cap i j : Nat) (l : List Nat) (w : World) (ho : OwnI 3 B w (.slice (some ⟨g, 0, none⟩) l.length cap) (toI l)) (hi : i < l.length) (hj : j < l.length) :
    Calls Try.prog 88 #[.slice (some ⟨g, 0, none⟩) l.length cap, .int .i64 (i : Nat), .int .i64 (j : Nat)] w fun e w' => e = .returned (.tuple #[]) ∧ OwnI 3 B w' (.slice (some ⟨g, 0, none⟩) l.length cap) (toI (swapN l i j)) ∧ Sm (fun k => k ≠ g) w w' := by
  have ci := ho.cellN i hi
  have cj := ho.cellN j hj
  have fi := ho.frozenN i
  have fj := ho.frozenN j
  have hii : (i : Int) < (l.length : Int) := by omega
  have hji : (j : Int) < (l.length : Int) := by omega
  have HE := Lib.hid (show swapN l i j = (l.set i (l[j]'hj)).set j (l[i]'hi) by unfold swapN; rw [getDN hi, getDN hj])
  have HO := Lib.hid ho
  obtain ⟨x, hx⟩ : ∃ x, l[i]'hi = x := ⟨_, rfl⟩
  obtain ⟨y, hy⟩ : ∃ y, l[j]'hj = y := ⟨_, rfl⟩
  rw [hx] at ci HE
  rw [hy] at cj HE
  have HXY := Lib.hid (show i = j → x = y from fun h => by subst h; rw [← hx, ← hy])
  clear hx hy ho
  have hfin : ∀ W', W' = (w.setCell ⟨g, i, none⟩ (.int .i64 (y : Nat))).setCell ⟨g, j, none⟩ (.int .i64 (x : Nat)) → OwnI 3 B W' (.slice (some ⟨g, 0, none⟩) l.length cap) (toI (swapN l i j)) ∧ Sm (fun k => k ≠ g) w W' := fun W' h => by
    subst h
    rw [HE.out]
    exact ⟨(HO.out.storedN i y).storedN j x, Sm.trans (b := w.setCell ⟨g, i, none⟩ (.int .i64 (y : Nat))) ⟨rfl, rfl, rfl, by simp [World.setCell], fun k hk _ => Below.heap_setCell w ⟨g, i, none⟩ _ k hk⟩ ⟨rfl, rfl, rfl, by simp [World.setCell], fun k hk _ => Below.heap_setCell _ ⟨g, j, none⟩ _ k hk⟩⟩
  have HF := Lib.hid hfin
  clear hfin
  by_cases e : i = j
  · obtain rfl := HXY.out e
    subst e
    go_enter Try.func88, Try.ntmps88
    go_wp2
    go_end0
    refine ⟨rfl, HF.out _ ?_⟩
    rfl
  · have e' : ¬ j = i := fun h => e h.symm
    go_enter Try.func88, Try.ntmps88
    go_wp2
    go_end0
    refine ⟨rfl, HF.out _ ?_⟩
    rfl

set_option maxRecDepth 20000 in
set_option maxHeartbeats 1000000 in
theorem after_any (va vs : Value) (a s : List Nat) (w : World) (ha : Ints w va (toI a)) (hs : Ints w vs (toI s)) (hlt : ∀ x ∈ s, x < a.length) (hl : s.length ≤ 1000) :
    Calls Try.prog 62 #[va, vs] w fun e w' => ∃ v, e = .returned v ∧ OwnI 3 w.heap.size w' v (toI (afterN a s)) ∧ Below w.heap.size w w' := by
  obtain ⟨aa, ca, rfl, hlena, hcla, hca⟩ := ha.openN
  obtain ⟨sa, cs, rfl, hlens, hcls, hcs⟩ := hs.openN
  have HA := Lib.hid hca
  have HS := Lib.hid hcs
  have HL := Lib.hid hlt
  clear ha hs hca hcs hlt
  go_enter Try.func62, Try.ntmps62
  go_wp2
  go_loopw [5, 10] (fun o ix wr => ∃ k : Nat, k ≤ s.length ∧ ix = .int .i64 k ∧ OwnI 3 w.heap.size wr o (toI (afterN a (s.take k))) ∧ Below w.heap.size w wr) (fun _ i _ => s.length - (intOf i).toNat)
  case atStart => exact ⟨0, Nat.zero_le _, rfl, OwnI.nil _ _ _, Below.refl _ _⟩
  case round =>
    obtain ⟨k, hk, rfl, ho, hb⟩ := hrel
    by_cases hlt : k < s.length
    · obtain ⟨b, off, rfl, hbl, hcell⟩ := HS.out (ne_nil_of_lt hlt)
      have hcx := (hb.cell (p := ⟨b, off + k, none⟩) hbl).trans (hcell k hlt)
      have hxa := HL.out _ (List.getElem_mem hlt)
      have HM := Lib.hid (map_take_succ (fun x => a.getD x 0) s k hlt)
      obtain ⟨x, hx⟩ : ∃ x, s[k] = x := ⟨_, rfl⟩
      rw [hx] at hcx hxa HM
      obtain ⟨b2, off2, rfl, hbl2, hcell2⟩ := HA.out (ne_nil_of_lt hxa)
      have hcy := (hb.cell (p := ⟨b2, off2 + x, none⟩) hbl2).trans (hcell2 x hxa)
      have HG := Lib.hid (getDN hxa)
      obtain ⟨y, hy⟩ : ∃ y, a[x]'hxa = y := ⟨_, rfl⟩
      rw [hy] at hcy HG
      have hle := hb.size
      have hki : (k : Int) < (s.length : Int) := by omega
      have hxi : (x : Int) < (a.length : Int) := by omega
      have hlk : (afterN a (s.take k)).length ≤ 1000 := by unfold afterN; rw [List.length_map, List.length_take]; omega
      clear hx hy hcell hcell2
      go_wp2_with (at_builtin; refine wpList_app1_at rfl _ _ rfl w.heap.size _ (toI (afterN a (s.take k))) ((y : Nat) : Int) rfl (ho.alloc _) ⟨_, 0, none⟩ 1 rfl (cell_new1 _ _ _) (by rw [toI_length]; omega) (by simp; omega) ?_; intro v4 w4 ho4 hg4 hl4; have HO4 := Lib.hid ho4; have HG4 := Lib.hid hg4; clear ho4 hg4 hl4)
      refine ⟨⟨k + 1, by omega, by push_cast; rfl, by unfold afterN; rw [HM.out, toI_append, HG.out]; exact HO4.out, (hb.alloc hle _).grown HG4.out (by simp; omega) (fun j hj => (ho.lt j hj).1)⟩, by simp [intOf]; omega⟩
    · obtain rfl : k = s.length := by omega
      rw [List.take_length] at ho
      go_wp2
      go_ret
      exact ⟨_, rfl, ho, hb⟩

set_option maxRecDepth 20000 in
set_option maxHeartbeats 1000000 in
theorem rsame_any (v1 v2 : Value) (xs ys : List Int) (w : World) (h1 : Ints w v1 xs) (h2 : Ints w v2 ys) :
    Calls Try.prog 89 #[v1, v2] w fun e w' => e = .returned (.bool (decide (xs = ys))) ∧ w = w' := by
  obtain ⟨a, c, rfl, hl1, hlc1, hc1⟩ := h1
  obtain ⟨a', c', rfl, hl2, hlc2, hc2⟩ := h2
  have H1 := Lib.hid hc1
  have H2 := Lib.hid hc2
  clear hc1 hc2
  go_enter Try.func89, Try.ntmps89
  go_wp2
  go_loop [9] (fun ix => ∃ k : Nat, k ≤ xs.length ∧ k ≤ ys.length ∧ ix = .int .i64 k ∧ xs.take k = ys.take k) (fun i => xs.length - (intOf i).toNat)
  case atStart => exact ⟨0, Nat.zero_le _, Nat.zero_le _, rfl, rfl⟩
  case round =>
    obtain ⟨k, hk1, hk2, rfl, ht⟩ := hrel
    have HT := Lib.hid ht
    clear ht
    by_cases hlt : k < xs.length
    · obtain ⟨b, off, rfl, hbl, hcell⟩ := H1.out (by intro e; rw [e] at hlt; simp at hlt)
      have hcx := hcell k hlt
      have hki : (k : Int) < (xs.length : Int) := by omega
      by_cases hly : k < ys.length
      · obtain ⟨b2, off2, rfl, hbl2, hcell2⟩ := H2.out (by intro e; rw [e] at hly; simp at hly)
        have hcy := hcell2 k hly
        have hyd : decide ((ys.length : Int) ≤ (k : Int)) = false := by simp; omega
        have hyd2 : (k : Int) < (ys.length : Int) := by omega
        clear hcell hcell2
        by_cases he : xs[k] = ys[k]
        · have HS := Lib.hid (eq_step hlt hly he HT.out)
          obtain ⟨x, hx⟩ : ∃ x, xs[k] = x := ⟨_, rfl⟩
          rw [hx] at hcx he
          rw [← he] at hcy
          have hb1 : (x != x) = false := by simp
          clear hx he
          go_wp2
          go_round
          case rel => exact ⟨k + 1, by omega, by omega, by go_num, HS.out⟩
          case measure => simp [intOf]; omega
        · have HN := Lib.hid (ne_of_at hlt hly he)
          have hb1 : (ys[k] != xs[k]) = true := by simp; exact fun h => he h.symm
          have hb2 : ¬ ys[k] = xs[k] := fun h => he h.symm
          clear he
          go_wp2
          go_ret
          exact ⟨ret_bool (by rw [HN.out]), rfl⟩
      · have HN := Lib.hid (ne_of_len (xs := xs) (ys := ys) (by omega))
        have hyd : (ys.length : Int) ≤ (k : Int) := by omega
        clear hcell
        go_wp2
        go_ret
        exact ⟨ret_bool (by rw [HN.out]), rfl⟩
    · obtain rfl : k = xs.length := by omega
      by_cases hl : xs.length = ys.length
      · have HN := Lib.hid (eq_end (xs := xs) (ys := ys) (k := xs.length) (by omega) (by omega) HT.out)
        have hbl : ((xs.length : Int) == (ys.length : Int)) = true := by simp; omega
        have hki : ¬ ((xs.length : Nat) : Int) < (xs.length : Int) := by omega
        clear hl
        go_wp2
        go_ret
        exact ⟨ret_bool HN.out.symm, rfl⟩
      · have HN := Lib.hid (ne_of_len hl)
        have hbl : ((xs.length : Int) == (ys.length : Int)) = false := by simp; omega
        have hki : ¬ ((xs.length : Nat) : Int) < (xs.length : Int) := by omega
        clear hl
        go_wp2
        go_ret
        exact ⟨ret_bool HN.out.symm, rfl⟩
end Go.Proofs.Ytmlhecfhhhebnaa
