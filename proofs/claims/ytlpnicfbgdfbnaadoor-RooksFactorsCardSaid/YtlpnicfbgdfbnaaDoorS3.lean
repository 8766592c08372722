/- S3: rooks.Steep, ref.Differences, ref.same, ref.steep, ref.Steep: the walks. -/
import Derived.Test.YtlpnicfbgdfbnaaDoorS2
namespace Go.Proofs.YtlpnicfbgdfbnaaDoor
open Go.RowKit Go.Shelf
attribute [local go_sem] Oper.semAt_some

set_option maxRecDepth 20000 in
set_option maxHeartbeats 1000000 in
theorem Differences_any (v : Value) (xs : List Int) (w : World) (hv : Ints w v xs) (h12 : xs.length ≤ 12) (hr : ∀ x ∈ xs, -100 ≤ x ∧ x ≤ 100) :
    Calls Tryd.prog 45 #[v] w fun e w' => ∃ v', e = .returned v' ∧ OwnI 3 w.heap.size w' v' (DifZ xs) ∧ Below w.heap.size w w' := by
  obtain ⟨a, c, rfl, hlen, hcl, hc⟩ := hv
  have HCC := Lib.hid hc
  have HR := Lib.hid hr
  clear hc hr
  go_enter Tryd.func45, Tryd.ntmps45
  go_wp2
  go_loopw [3, 8] (fun o ix wr => ∃ k : Nat, k ≤ xs.length ∧ ix = .int .i64 k ∧ OwnI 3 w.heap.size wr o (dz 0 (xs.take k)) ∧ Below w.heap.size w wr) (fun _ i _ => xs.length - (intOf i).toNat)
  case atStart => exact ⟨0, Nat.zero_le _, rfl, OwnI.nil _ _ _, Below.refl _ _⟩
  case round =>
    obtain ⟨k, hk, rfl, ho, hb⟩ := hrel
    by_cases hlt : k < xs.length
    · obtain ⟨b, off, rfl, hbl, hcell⟩ := HCC.out (by intro e; rw [e] at hlt; simp at hlt)
      have hcx := (hb.cell (p := ⟨b, off + k, none⟩) hbl).trans (hcell k hlt)
      have hx6 := HR.out _ (List.getElem_mem hlt)
      have H := Lib.hid (dz_snoc xs k hlt)
      obtain ⟨x, hx⟩ : ∃ x, xs[k] = x := ⟨_, rfl⟩
      rw [hx] at hcx hx6 H
      have hle := hb.size
      obtain ⟨hx1, hx2⟩ := hx6
      have hlk : (dz 0 (xs.take k)).length ≤ 12 := by rw [dz_length, List.length_take]; omega
      clear hx hcell
      go_wp2_with (at_builtin; refine wpList_app1 rfl _ _ 22 rfl 3 Tryd.underlying22 info3 w.heap.size _ (dz 0 (xs.take k)) _ rfl (ho.alloc _) ⟨wr.heap.size, 0, none⟩ 1 rfl (cell_new1 _ _ _) (by omega) (by simp; omega) ?_; intro v' w1 ho1 hg1 hb1; clear hg1)
      go_roundw
      case rel => exact ⟨k + 1, by omega, by go_num, by rw [H.out]; exact ho1, (hb.alloc hle _).trans hb1⟩
      case measure => simp [intOf]; omega
    · obtain rfl : k = xs.length := by omega
      rw [List.take_length] at ho
      have HB := Lib.hid hb
      have S := Lib.hid (risingZ_any _ (dz 0 xs) wr (ho.ints (by rw [dz_length]; exact hlen)) (by rw [dz_length]; exact h12))
      go_wp2_with (go_at_call 65; refine S.out.mono ?_; rintro e w1 ⟨v1, rfl, ho1, hb1⟩)
      go_ret
      exact ⟨_, rfl, ho1.mono HB.out.size, HB.out.trans (hb1.mono HB.out.size)⟩

set_option maxRecDepth 20000 in
set_option maxHeartbeats 1000000 in
theorem rsame_any (v1 v2 : Value) (xs ys : List Int) (w : World) (h1 : Ints w v1 xs) (h2 : Ints w v2 ys) :
    Calls Tryd.prog 82 #[v1, v2] w fun e w' => e = .returned (.bool (decide (xs = ys))) ∧ w = w' := by
  obtain ⟨a, c, rfl, hl1, hlc1, hc1⟩ := h1
  obtain ⟨a', c', rfl, hl2, hlc2, hc2⟩ := h2
  have H1 := Lib.hid hc1
  have H2 := Lib.hid hc2
  clear hc1 hc2
  go_enter Tryd.func82, Tryd.ntmps82
  go_wp2
  go_loop [9] (fun ix => ∃ k : Nat, k ≤ xs.length ∧ k ≤ ys.length ∧ ix = .int .i64 k ∧ xs.take k = ys.take k) (fun i => xs.length - (intOf i).toNat)
  case atStart => exact ⟨0, Nat.zero_le _, Nat.zero_le _, rfl, rfl⟩
  case round =>
    obtain ⟨k, hk1, hk2, rfl, ht⟩ := hrel
    have HT := Lib.hid ht
    clear ht
    by_cases hlt : k < xs.length
    · obtain ⟨b, off, rfl, hbl, hcell⟩ := H1.out (by intro e; rw [e] at hlt; simp at hlt)
      have hcx := hcell k hlt
      have hki : (k : Int) < (xs.length : Int) := by omega
      by_cases hly : k < ys.length
      · obtain ⟨b2, off2, rfl, hbl2, hcell2⟩ := H2.out (by intro e; rw [e] at hly; simp at hly)
        have hcy := hcell2 k hly
        have hyd : decide ((ys.length : Int) ≤ (k : Int)) = false := by simp; omega
        have hyd2 : (k : Int) < (ys.length : Int) := by omega
        clear hcell hcell2
        by_cases he : xs[k] = ys[k]
        · have HS := Lib.hid (eq_step hlt hly he HT.out)
          obtain ⟨x, hx⟩ : ∃ x, xs[k] = x := ⟨_, rfl⟩
          rw [hx] at hcx he
          rw [← he] at hcy
          have hb1 : (x != x) = false := by simp
          clear hx he
          go_wp2
          go_round
          case rel => exact ⟨k + 1, by omega, by omega, by go_num, HS.out⟩
          case measure => simp [intOf]; omega
        · have HN := Lib.hid (ne_of_at hlt hly he)
          have hb1 : (ys[k] != xs[k]) = true := by simp; exact fun h => he h.symm
          have hb2 : ¬ ys[k] = xs[k] := fun h => he h.symm
          clear he
          go_wp2
          go_ret
          exact ⟨ret_bool (by rw [HN.out]), rfl⟩
      · have HN := Lib.hid (ne_of_len (xs := xs) (ys := ys) (by omega))
        have hyd : (ys.length : Int) ≤ (k : Int) := by omega
        clear hcell
        go_wp2
        go_ret
        exact ⟨ret_bool (by rw [HN.out]), rfl⟩
    · obtain rfl : k = xs.length := by omega
      by_cases hl : xs.length = ys.length
      · have HN := Lib.hid (eq_end (xs := xs) (ys := ys) (k := xs.length) (by omega) (by omega) HT.out)
        have hbl : ((xs.length : Int) == (ys.length : Int)) = true := by simp; omega
        have hki : ¬ ((xs.length : Nat) : Int) < (xs.length : Int) := by omega
        clear hl
        go_wp2
        go_ret
        exact ⟨ret_bool HN.out.symm, rfl⟩
      · have HN := Lib.hid (ne_of_len hl)
        have hbl : ((xs.length : Int) == (ys.length : Int)) = false := by simp; omega
        have hki : ¬ ((xs.length : Nat) : Int) < (xs.length : Int) := by omega
        clear hl
        go_wp2
        go_ret
        exact ⟨ret_bool HN.out.symm, rfl⟩

theorem findSome_range {α : Type} {f : Nat → Option α} : ∀ {m : Nat} {s : α}, (List.range m).findSome? f = some s → ∃ z, z < m ∧ f z = some s ∧ ∀ x, x < z → f x = none := by
  intro m s h
  rw [List.findSome?_eq_some_iff] at h
  obtain ⟨l1, a, l2, e, h1, h2⟩ := h
  have ha : a = l1.length := by
    have := congrArg (fun l : List Nat => l[l1.length]?) e
    simp at this
    have hl : l1.length < m := by have := congrArg List.length e; simp at this; omega
    simp [hl] at this
    exact this.symm
  subst ha
  refine ⟨l1.length, by have := congrArg List.length e; simp at this; omega, h1, fun x hx => h2 x ?_⟩
  have hm : x < m := by have := congrArg List.length e; simp at this; omega
  have := congrArg (fun l : List Nat => l[x]?) e
  simp only [List.getElem?_append_left hx, List.getElem?_range hm, List.getElem?_eq_getElem hx, Option.some.injEq] at this
  exact this ▸ List.getElem_mem hx
theorem findSome_none {α : Type} {f : Nat → Option α} {m : Nat} (h : ∀ x, x < m → f x = none) : (List.range m).findSome? f = none := by
  rw [List.findSome?_eq_none_iff]
  intro x hx
  exact h x (List.mem_range.mp hx)
theorem findSome_first {α : Type} {f : Nat → Option α} {m z : Nat} {s : α} (hz : z < m) (h1 : f z = some s) (h : ∀ x, x < z → f x = none) : (List.range m).findSome? f = some s := by
  cases e : (List.range m).findSome? f with
  | none => rw [List.findSome?_eq_none_iff] at e; rw [e z (List.mem_range.mpr hz)] at h1; cases h1
  | some t =>
    obtain ⟨y, hy, hy1, hy2⟩ := findSome_range e
    obtain rfl : y = z := by
      rcases Nat.lt_trichotomy y z with hlt | rfl | hlt
      · rw [h y hlt] at hy1; cases hy1
      · rfl
      · rw [hy2 z hlt] at h1; cases h1
    rw [← hy1, h1]

theorem SteepPost.none {xs : List Int} {z : Nat} {w w' : World} {v' : Value} {b : Bool} (h : SteepPost xs z w w' v' b) (hn : SteepZ xs z = Option.none) : b = false ∧ v' = .slice Option.none 0 0 ∧ Below w.heap.size w w' := by
  rcases h with ⟨⟨_, h1, h2⟩ | ⟨s, h1, _⟩, hb⟩
  · exact ⟨h1, h2, hb⟩
  · rw [hn] at h1; cases h1
theorem SteepPost.some {xs : List Int} {z : Nat} {w w' : World} {v' : Value} {b : Bool} {s : List Int} (h : SteepPost xs z w w' v' b) (hn : SteepZ xs z = Option.some s) : b = true ∧ OwnI 3 w.heap.size w' v' s ∧ Below w.heap.size w w' := by
  rcases h with ⟨⟨h1, _⟩ | ⟨s', h1, h2, h3⟩, hb⟩
  · rw [hn] at h1; cases h1
  · rw [hn] at h1; cases h1; exact ⟨h2, h3, hb⟩

set_option maxRecDepth 20000 in
set_option maxHeartbeats 2000000 in
theorem SteepBad_any (v : Value) (xs : List Int) (w : World) (hv : Ints w v xs) (h : stairB xs = false) :
    Calls Tryd.prog 41 #[v] w fun e w' => e = .returned (.tuple #[.slice none 0 0, .int .i64 2]) ∧ Below w.heap.size w w' := by
  have V := hvalid_any v xs w hv
  rw [h] at V
  have C := Lib.hid V
  obtain ⟨a, c, rfl, hlen, hcl, hc⟩ := hv
  clear V hc h
  go_enter Tryd.func41, Tryd.ntmps41
  go_wp2_with (go_at_call 61; refine C.out.mono ?_; rintro e w1 ⟨rfl, hb1⟩)
  go_ret2
  exact ⟨rfl, hb1⟩

set_option maxRecDepth 20000 in
set_option maxHeartbeats 2000000 in
theorem Steep_any (v : Value) (hs : List Nat) (s : List Int) (w : World) (hv : Ints w v (toI hs)) (h : Stp hs) (hst : Steep hs s) :
    Calls Tryd.prog 41 #[v] w fun e w' => ∃ v', e = .returned (.tuple #[v', .int .i64 0]) ∧ OwnI 3 w.heap.size w' v' s ∧ Below w.heap.size w w' := by
  have V := hvalid_any v (toI hs) w hv
  rw [stairB_of h] at V
  have C := Lib.hid V
  have HV := Lib.hid hv
  have h1 := h.pos
  have h6 := h.le
  have hr : ∀ x ∈ toI hs, -100 ≤ x ∧ x ≤ 100 := by
    intro x hx
    obtain ⟨n, hn, rfl⟩ := List.mem_map.mp hx
    have := h.top n hn
    exact ⟨by omega, by omega⟩
  obtain ⟨z, hz, hz1, hz2⟩ := findSome_range hst.prog
  rw [toI_length] at hz
  have HZ1 := Lib.hid hz1
  have HZ2 := Lib.hid hz2
  have ST := Lib.hid (fun (wr : World) (hb : Below w.heap.size w wr) (k : Nat) (hk : k ≤ 13) => steep_any v (toI hs) k wr (hv.below hb) (by rw [toI_length]; exact h1) (by rw [toI_length]; omega) hk hr)
  obtain ⟨a, c, rfl, hlen, hcl, hc⟩ := hv
  rw [toI_length] at *
  clear V hc hr hst h hz1 hz2
  go_enter Tryd.func41, Tryd.ntmps41
  go_wp2_with (go_at_call 61; refine C.out.mono ?_; rintro e w1 ⟨rfl, hb1⟩)
  go_loopw [15] (fun ix wr => ∃ k : Nat, k ≤ z ∧ ix = .int .i64 k ∧ Below w.heap.size w wr) (fun ix _ => hs.length + 1 - (intOf ix).toNat)
  case atStart => exact ⟨0, Nat.zero_le _, rfl, hb1⟩
  case round =>
    obtain ⟨k, hk, rfl, hb⟩ := hrel
    have hki : (k : Int) < (hs.length : Int) + 1 := by omega
    have HB := Lib.hid hb
    clear hb
    by_cases hkz : k < z
    · have HN := Lib.hid (HZ2.out k hkz)
      go_wp2_with (go_at_call 66; refine (ST.out _ HB.out k (by omega)).mono ?_; rintro e w2 ⟨v2, b2, rfl, hp⟩; obtain ⟨rfl, rfl, hb2⟩ := hp.none HN.out; clear hp)
      go_roundw
      case rel => exact ⟨k + 1, by omega, by go_num, HB.out.trans (hb2.mono HB.out.size)⟩
      case measure => simp [intOf]; omega
    · obtain rfl : k = z := by omega
      go_wp2_with (go_at_call 66; refine (ST.out _ HB.out k (by omega)).mono ?_; rintro e w2 ⟨v2, b2, rfl, hp⟩; obtain ⟨rfl, ho2, hb2⟩ := hp.some HZ1.out; clear hp)
      go_ret2
      exact ⟨_, rfl, ho2.mono HB.out.size, HB.out.trans (hb2.mono HB.out.size)⟩
end Go.Proofs.YtlpnicfbgdfbnaaDoor
