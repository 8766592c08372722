/- Pe Pf Eq Ag of the seat's texts, in this order. -/
import Derived.Test.YtdackakjcnnofaaA7
import Derived.Test.YtdackakjcnnofaaA3
import Derived.Deep.Matrix
import Derived.Test.YtdackakjcnnofaaRows
import Derived.ProofKit
import Derived.OpenShut
import Derived.SizedLaws
import Derived.Carry
import Derived.Lib.SmallJoins
import Derived.Stop.Joined

/- read in its three ways; Prime, Classes. -/
namespace Go.Proofs.Ytdackakjcnnofaa
open Go.RowKit
attribute [local go_sem] Oper.semAt_some

section
variable {v : Value} {L : List (List Int)} {w : World} {E : List (List Nat)}
theorem read_no (h : Args w v L) (hq : genQ L = false) : Calls Try.prog 21 #[v] w fun e w' => e = .returned (.tuple #[.pointer none, .int .i64 2]) ∧ Below w.heap.size w w' := by
  refine (read_any v L w h).mono ?_
  rintro e w' ⟨hb, ⟨_, he⟩ | ⟨h1, _⟩⟩
  · exact ⟨he, hb⟩
  · rw [hq] at h1; cases h1
theorem read_over (h : Args w v L) (hq : genQ L = true) (ho : Over (L.headD []).length (L.map natP)) : Calls Try.prog 21 #[v] w fun e w' => e = .returned (.tuple #[.pointer none, .int .i64 6]) ∧ Below w.heap.size w w' := by
  refine (read_any v L w h).mono ?_
  rintro e w' ⟨hb, ⟨h1, _⟩ | ⟨_, ⟨_, he⟩ | ⟨E, bg, hg, _⟩⟩⟩
  · rw [hq] at h1; cases h1
  · exact ⟨he, hb⟩
  · exact absurd ho hg.not_over
theorem read_yes (h : Args w v L) (hq : genQ L = true) (hg : IsG (L.headD []).length (L.map natP) E) : Calls Try.prog 21 #[v] w fun e w' => ∃ bg, e = .returned (.tuple #[.pointer (some ⟨bg, 0, none⟩), .int .i64 0]) ∧ PG (L.headD []).length E w' bg ∧ Below w.heap.size w w' := by
  refine (read_any v L w h).mono ?_
  rintro e w' ⟨hb, ⟨h1, _⟩ | ⟨_, ⟨ho, _⟩ | ⟨E', bg, hg', he, hp⟩⟩⟩
  · rw [hq] at h1; cases h1
  · exact absurd ho hg.not_over
  · obtain rfl := hg.uniq hg'
    exact ⟨bg, he, hp, hb⟩
/-- The three ways. -/
theorem three (L : List (List Int)) : genQ L = false ∨ (genQ L = true ∧ Over (L.headD []).length (L.map natP)) ∨ (genQ L = true ∧ ∃ E, IsG (L.headD []).length (L.map natP) E) := by
  cases hq : genQ L with
  | false => exact .inl rfl
  | true =>
    have hp := genQ_perm hq
    rcases over_or (gens := L.map natP) (fun q hq => by obtain ⟨p, hp1, rfl⟩ := List.mem_map.1 hq; exact hp.2.2.2.2.1 p hp1) hp.2.2.2.1 with h | h
    · exact .inr (.inl ⟨rfl, h⟩)
    · exact .inr (.inr ⟨rfl, h⟩)
theorem Prime_no (h : Args w v L) (hq : genQ L = false) : Calls Try.prog 16 #[v] w fun e w' => e = .returned (.tuple #[.int .i64 0, .int .i64 2]) ∧ Below w.heap.size w w' := by
  have RD := Lib.hid (read_no h hq)
  clear h hq
  go_enter Try.func16, Try.ntmps16
  go_wp2_with (go_at_call 21; refine RD.out.mono ?_; rintro e w1 ⟨rfl, hb⟩)
  go_ret2
  exact ⟨rfl, hb⟩
theorem Prime_over (h : Args w v L) (hq : genQ L = true) (ho : Over (L.headD []).length (L.map natP)) : Calls Try.prog 16 #[v] w fun e w' => e = .returned (.tuple #[.int .i64 0, .int .i64 6]) ∧ Below w.heap.size w w' := by
  have RD := Lib.hid (read_over h hq ho)
  clear h hq ho
  go_enter Try.func16, Try.ntmps16
  go_wp2_with (go_at_call 21; refine RD.out.mono ?_; rintro e w1 ⟨rfl, hb⟩)
  go_ret2
  exact ⟨rfl, hb⟩
theorem Prime_yes (h : Args w v L) (hq : genQ L = true) (hg : IsG (L.headD []).length (L.map natP) E) : Calls Try.prog 16 #[v] w fun e w' => e = .returned (.tuple #[.int .i64 (primeN E (L.headD []).length : Nat), .int .i64 0]) ∧ Below w.heap.size w w' := by
  have RD := Lib.hid (read_yes h hq hg)
  obtain ⟨d, hd⟩ : ∃ d, (L.headD []).length = d := ⟨_, rfl⟩
  rw [hd] at RD ⊢
  obtain ⟨q, hqq⟩ : ∃ q, primeN E d = q := ⟨_, rfl⟩
  have HQ := Lib.hid hqq
  rw [hqq]
  clear h hq hg hd hqq
  go_enter Try.func16, Try.ntmps16
  go_wp2_with (go_at_call 21; refine RD.out.mono ?_; rintro e w1 ⟨bg, rfl, hp, hb⟩; obtain ⟨H, S, vE, bM, vC, vO, vB, hs⟩ := hp; have hc := hs.box.at (i := 6) rfl; rw [HQ.out] at hc; clear hs)
  go_ret2
  exact ⟨rfl, hb⟩
theorem Classes_no (h : Args w v L) (hq : genQ L = false) : Calls Try.prog 9 #[v] w fun e w' => e = .returned (.tuple #[.slice none 0 0, .int .i64 2]) ∧ Below w.heap.size w w' := by
  have RD := Lib.hid (read_no h hq)
  clear h hq
  go_enter Try.func9, Try.ntmps9
  go_wp2_with (go_at_call 21; refine RD.out.mono ?_; rintro e w1 ⟨rfl, hb⟩)
  go_ret2
  exact ⟨rfl, hb⟩
theorem Classes_over (h : Args w v L) (hq : genQ L = true) (ho : Over (L.headD []).length (L.map natP)) : Calls Try.prog 9 #[v] w fun e w' => e = .returned (.tuple #[.slice none 0 0, .int .i64 6]) ∧ Below w.heap.size w w' := by
  have RD := Lib.hid (read_over h hq ho)
  clear h hq ho
  go_enter Try.func9, Try.ntmps9
  go_wp2_with (go_at_call 21; refine RD.out.mono ?_; rintro e w1 ⟨rfl, hb⟩)
  go_ret2
  exact ⟨rfl, hb⟩
theorem Classes_yes (h : Args w v L) (hq : genQ L = true) (hg : IsG (L.headD []).length (L.map natP) E) : Calls Try.prog 9 #[v] w fun e w' => ∃ u S H, e = .returned (.tuple #[u, .int .i64 0]) ∧ RowsF S H w' u (classesN E) ∧ Below w.heap.size w w' := by
  have RD := Lib.hid (read_yes h hq hg)
  clear h hq hg
  go_enter Try.func9, Try.ntmps9
  go_wp2_with (go_at_call 21; refine RD.out.mono ?_; rintro e w1 ⟨bg, rfl, hp, hb⟩; obtain ⟨H, S, vE, bM, vC, vO, vB, hs⟩ := hp; have hc := hs.box.at (i := 3) rfl; have HC := Lib.hid hs.c; clear hs)
  go_ret2
  exact ⟨_, _, _, rfl, HC.out, hb⟩
end
end Go.Proofs.Ytdackakjcnnofaa

/- traces.Elements. -/
namespace Go.Proofs.Ytdackakjcnnofaa
open Go.RowKit
attribute [local go_sem] Oper.semAt_some

theorem cs5_pad {d : Nat} {x : List Nat} (j : Nat) (hj : j < (toI x).length) : (cs5 (elI d x))[j]? = some (.int .i64 (toI x)[j]) := by
  unfold elI padP cs5
  rw [toI_append, List.map_append, List.getElem?_append_left (by simpa using hj), List.getElem?_map, List.getElem?_eq_getElem hj]
  rfl
theorem ints_el {d b : Nat} {w : World} {x : List Nat} (hd : d ≤ 5) (hx : Perm1 d x) (h : Held w b 54 (cs5 (elI d x))) : Ints w (.slice (some ⟨b, 0, none⟩) d 5) (toI x) := by
  have hl : (toI x).length = d := by rw [toI_length]; exact hx.1
  exact ⟨_, 5, by rw [hl], by omega, by omega, fun _ => ⟨b, 0, rfl, h.lt, fun j hj => by rw [Nat.zero_add]; exact h.at (cs5_pad j hj)⟩⟩
section
variable {v : Value} {L : List (List Int)} {w : World} {E : List (List Nat)}
theorem PElements_no (h : Args w v L) (hq : genQ L = false) : Calls Try.prog 8 #[v] w fun e w' => e = .returned (.tuple #[.slice none 0 0, .int .i64 2]) ∧ Below w.heap.size w w' := by
  have RD := Lib.hid (read_no h hq)
  clear h hq
  go_enter Try.func8, Try.ntmps8
  go_wp2_with (go_at_call 21; refine RD.out.mono ?_; rintro e w1 ⟨rfl, hb⟩)
  go_ret2
  exact ⟨rfl, hb⟩
theorem PElements_over (h : Args w v L) (hq : genQ L = true) (ho : Over (L.headD []).length (L.map natP)) : Calls Try.prog 8 #[v] w fun e w' => e = .returned (.tuple #[.slice none 0 0, .int .i64 6]) ∧ Below w.heap.size w w' := by
  have RD := Lib.hid (read_over h hq ho)
  clear h hq ho
  go_enter Try.func8, Try.ntmps8
  go_wp2_with (go_at_call 21; refine RD.out.mono ?_; rintro e w1 ⟨rfl, hb⟩)
  go_ret2
  exact ⟨rfl, hb⟩
set_option maxRecDepth 100000 in
set_option maxHeartbeats 2000000 in
theorem PElements_yes (h : Args w v L) (hq : genQ L = true) (hg : IsG (L.headD []).length (L.map natP) E) : Calls Try.prog 8 #[v] w fun e w' => ∃ u S, e = .returned (.tuple #[u, .int .i64 0]) ∧ GrowR w.heap.size w' u E S ∧ Below w.heap.size w w' := by
  have RD := Lib.hid (read_yes h hq hg)
  have hp := genQ_perm hq
  have HGR := Lib.hid (hg.grp fun q hq => by obtain ⟨p, hp1, rfl⟩ := List.mem_map.1 hq; exact hp.2.2.2.2.1 p hp1)
  have hd5 := hp.2.2.2.1
  have h24 := hg.few
  obtain ⟨d, hd⟩ : ∃ d, (L.headD []).length = d := ⟨_, rfl⟩
  rw [hd] at RD HGR hd5
  obtain ⟨n, hn⟩ : ∃ n, E.length = n := ⟨_, rfl⟩
  have HN := Lib.hid hn
  rw [hn] at h24
  have CL := Lib.hid (fun (x : List Nat) (hx : Perm1 d x) (b : Nat) (W : World) (hh : Held W b 54 (cs5 (elI d x))) => Clone_any _ _ W (ints_el hd5 hx hh))
  clear h hq hg hp hd hn
  go_enter Try.func8, Try.ntmps8
  go_wp2_with (go_at_call 21; refine RD.out.mono ?_; rintro e w1 ⟨bg, rfl, hp, hb⟩; obtain ⟨H, S, vE, bM, vC, vO, vB, hs⟩ := hp; have hc := hs.box.at (i := 1) rfl; have HBX := Lib.hid hs.box; have HEL := Lib.hid hs.els; have HB := Lib.hid hb; obtain ⟨gE, cE, rfl, -, -, -⟩ := hs.els; rw [elsI_length, HN.out] at hc HBX HEL; clear hs hb)
  go_loopw [6, 22] (fun vr ix wr => ∃ (k : Nat) (S : Nat → Prop), k ≤ n ∧ ix = .int .i64 k ∧ GrowR w1.heap.size wr vr (E.take k) S ∧ Below w1.heap.size w1 wr) (fun _ ix _ => n - (intOf ix).toNat)
  case atStart => exact ⟨0, _, Nat.zero_le _, rfl, GrowR.nil _ _, Below.refl _ _⟩
  case round =>
    obtain ⟨k, S, hk, rfl, hg, hb1⟩ := hrel
    have HG := Lib.hid hg
    have HB1 := Lib.hid hb1
    have HBW := Lib.hid (HB.out.trans (hb1.mono HB.out.size))
    clear hg hb1
    by_cases hlt : k < n
    · have hki : (k : Int) < (n : Int) := by omega
      have hk0 : (0 : Int) ≤ (k : Int) := by omega
      obtain ⟨x, hx⟩ : ∃ x, E[k]? = some x := ⟨_, List.getElem?_eq_getElem (by rw [HN.out]; exact hlt)⟩
      have hpx := HGR.out.perm x (List.mem_of_getElem? hx)
      have HT := Lib.hid (show E.take (k + 1) = E.take k ++ [x] by rw [List.take_add_one, hx]; rfl)
      have HX5 := Lib.hid (elI_len hd5 hpx)
      have HXR := Lib.hid ((HEL.out.below HB1.out).range (elsI_get hx) HX5.out)
      have HCL := Lib.hid (CL.out x hpx)
      have HXL := Lib.hid (show x.length ≤ 1000000 by have := hpx.1; omega)
      have HTL := Lib.hid (show (E.take k).length < 1000000 by rw [List.length_take, HN.out]; omega)
      have HTO := Lib.hid (show (toI x).length = d by rw [toI_length]; exact hpx.1)
      have hdi : (0 : Int) ≤ (d : Int) := by omega
      have hd5i : (d : Int) ≤ 5 := by omega
      obtain ⟨X, hX⟩ : ∃ X, elI d x = X := ⟨_, rfl⟩
      rw [hX] at HX5 HXR HCL
      clear hx hpx hX
      go_wp2_with (first
        | ((with_reducible refine is_load 54 ?_); refine wpList_load_mid (by rfl) 54 _ (by rfl) gE (k * 5) (by rfl) (cs5 X) _ HXR.out Try.underlying54 rfl (infoLl HX5.out) ?_)
        | ((with_reducible refine is_store 54 ?_); refine wpl_store_elem (by rfl) _ _ (by rfl) wr.heap.size X zeroE HX5.out (by rfl) (by rfl) (by rfl) (Held.made rfl) ?_; intro W2 hh2 hs2 hz2; have HH2 := Lib.hid hh2; have HB2 := Lib.hid (show Below wr.heap.size wr W2 from hs2.below ((Below.refl _ _).alloc (Nat.le_refl _) _) (Nat.le_refl _) (by simp)); have hc2 := (HBX.out.below (HB1.out.trans (HB2.out.mono HB1.out.size)) HBX.out.lt).at (i := 0) rfl; clear hh2 hs2 hz2)
        | (go_at_call 23; refine (HCL.out _ _ HH2.out).mono ?_; rintro e w3 ⟨v3, rfl, ho3, hb3⟩; obtain ⟨a3, n3, c3, rfl⟩ := own_form ho3; have HGW := Lib.hid (HG.out.grow (HB2.out.trans (hb3.mono HB2.out.size)) (OwnI.mono ho3 HB2.out.size) HXL.out); have HB3 := Lib.hid (HB2.out.trans (hb3.mono HB2.out.size)); clear ho3 hb3)
        | (at_builtin; refine wpList_appF rfl _ _ rfl (fun j => S j ∨ (Value.slice a3 n3 c3).ownBlock = some j) w1.heap.size w3.heap.size u6 (.slice a3 n3 c3) (E.take k) x rfl (HGW.out.1.1.alloc _) ((HGW.out.2).kept (Sm.of_below ((Below.refl _ _).alloc (Nat.le_refl _) _))) rfl (Held.made rfl) (fun j hj => (HGW.out.1.2 j hj).2) HTL.out (by have := HB1.out.size; have := HB3.out.size; simp; omega) ?_; intro v4 w4 hr4 hg4 ho4; have HR4 := Lib.hid (GrowR.app (b := 0) HGW.out.1 ((Below.refl _ _).alloc (Nat.le_refl _) _) hr4 hg4 ho4 rfl); have HB4 := Lib.hid (((HB1.out.trans (HB3.out.mono HB1.out.size)).alloc (by have := HB1.out.size; have := HB3.out.size; omega) _).grown hg4 (by have := HB1.out.size; have := HB3.out.size; simp; omega) (fun j hj => (HG.out.1.own j hj).1)); clear hr4 hg4 ho4))
      go_roundw
      case rel => exact ⟨k + 1, _, hlt, by go_num, by rw [HT.out]; exact HR4.out, HB4.out⟩
      case measure => simp [intOf]; omega
    · obtain rfl : k = n := by omega
      have hki : ¬ (k : Int) < (k : Int) := by omega
      go_wp2_with fail
      go_ret2
      have h0 := HG.out
      rw [List.take_of_length_le (by rw [HN.out]; exact Nat.le_refl _)] at h0
      exact ⟨_, rfl, ⟨_, h0.1.base HB.out.size, h0.2⟩, HBW.out⟩
end
end Go.Proofs.Ytdackakjcnnofaa

/- slices.Equal at []int. -/
namespace Go.Proofs.Ytdackakjcnnofaa
open Go.RowKit

theorem Fz.slice {S : Nat → Prop} {w : World} {v : Value} {xs : List Int} (h : Fz S w v xs) : ∃ a c, v = .slice a xs.length c ∧ xs.length ≤ c := by
  obtain ⟨a, c, rfl, _, h2, _⟩ := h; exact ⟨a, c, rfl, h2⟩
theorem take_succ' {α : Type} (l : List α) (k : Nat) (h : k < l.length) : l.take (k + 1) = l.take k ++ [l[k]] := by
  rw [List.take_succ_eq_append_getElem h]
theorem dec_toI (a b : List Nat) : decide (toI a = toI b) = decide (a = b) := by
  by_cases h : a = b
  · subst h; simp
  · rw [decide_eq_false h, decide_eq_false (fun e => h (toI_inj e))]
theorem ne_of_len {xs ys : List Int} (h : xs.length ≠ ys.length) : decide (xs = ys) = false := by
  rw [decide_eq_false_iff_not]; intro e; exact h (by rw [e])
theorem ne_of_at {xs ys : List Int} {k : Nat} (h1 : k < xs.length) (h2 : k < ys.length) (h : ¬ xs[k] = ys[k]) : decide (xs = ys) = false := by
  rw [decide_eq_false_iff_not]; intro e; subst e; exact h rfl
theorem eq_step {xs ys : List Int} {k : Nat} (h1 : k < xs.length) (h2 : k < ys.length) (h : xs[k] = ys[k]) (ht : xs.take k = ys.take k) : xs.take (k + 1) = ys.take (k + 1) := by
  rw [take_succ' xs k h1, take_succ' ys k h2, h, ht]
theorem eq_end {xs ys : List Int} {k : Nat} (h1 : xs.length ≤ k) (h2 : ys.length ≤ k) (ht : xs.take k = ys.take k) : decide (xs = ys) = true := by
  rw [List.take_of_length_le h1, List.take_of_length_le h2] at ht; simp [ht]


set_option maxHeartbeats 400000 in
theorem Equal_any (v1 v2 : Value) (xs ys : List Int) (w : World) (h1 : Ints w v1 xs) (h2 : Ints w v2 ys) :
    Calls Try.prog 12 #[v1, v2] w fun e w' => e = .returned (.bool (decide (xs = ys))) ∧ Below w.heap.size w w' := by
  obtain ⟨a, c, rfl, hl1, _, hc1⟩ := h1
  obtain ⟨a', c', rfl, hl2, _, hc2⟩ := h2
  by_cases hl : xs.length = ys.length
  · have HL := Lib.hid hl; clear hl
    have hle : xs.length ≤ ys.length := by have := HL.out; omega
    have hge : ys.length ≤ xs.length := by have := HL.out; omega
    go_enter Try.func12, Try.ntmps12
    go_wp2
    go_loopw [13] (fun i wr => ∃ k : Nat, k ≤ xs.length ∧ i = .int .i64 k ∧ xs.take k = ys.take k ∧ Below w.heap.size w wr) (fun i _ => xs.length - (intOf i).toNat)
    case atStart => exact ⟨0, Nat.zero_le _, rfl, rfl, Below.refl _ _⟩
    case round =>
      obtain ⟨k, hk, rfl, ht, hb⟩ := hrel
      have HT := Lib.hid ht; clear ht
      by_cases hlt : k < xs.length
      · have hlt2 : k < ys.length := by omega
        obtain ⟨b, off, rfl, hbl, hcell⟩ := hc1 (ne_nil_of_lt hlt)
        obtain ⟨b2, off2, rfl, hbl2, hcell2⟩ := hc2 (ne_nil_of_lt hlt2)
        have hcx := (hb.cell (p := ⟨b, off + k, none⟩) hbl).trans (hcell k hlt)
        have hcy := (hb.cell (p := ⟨b2, off2 + k, none⟩) hbl2).trans (hcell2 k hlt2)
        clear hcell hcell2 hc1 hc2
        by_cases hxy : xs[k] = ys[k]
        · have HXY := Lib.hid hxy
          have hne : (xs[k] != ys[k]) = false := by rw [hxy]; simp
          clear hxy
          go_wp2
          go_quiet (fail)
          go_wp2
          go_roundw
          case rel => exact ⟨k + 1, by omega, by go_num, eq_step hlt hlt2 HXY.out HT.out, below_drewN hb _⟩
          case measure => simp [intOf]; omega
        · have HXY := Lib.hid (ne_of_at hlt hlt2 hxy)
          have hne : (xs[k] != ys[k]) = true := by simpa using hxy
          clear hxy
          go_wp2
          go_quiet (fail)
          go_wp2
          go_ret
          exact ⟨ret_bool HXY.out.symm, below_drewN hb _⟩
      · have HE := Lib.hid (eq_end (k := k) (by omega) (by omega) HT.out)
        go_wp2
        go_ret
        exact ⟨ret_bool HE.out.symm, hb⟩
  · have HE := Lib.hid (ne_of_len hl)
    go_enter Try.func12, Try.ntmps12
    go_wp2
    go_ret
    exact ⟨ret_bool HE.out.symm, Below.refl _ _⟩
set_option maxRecDepth 20000 in
set_option maxHeartbeats 2000000 in
theorem EqualF_any {S S' : Nat → Prop} {B B' : Nat} (v1 v2 : Value) (xs ys : List (List Nat)) (w : World) (h1 : RowsF S B w v1 xs) (h2 : RowsF S' B' w v2 ys) (hx : xs.length ≤ 1000000) :
    Calls Try.prog 46 #[v1, v2, .func (.func 12) #[] #[]] w fun e w' => e = .returned (.bool (decide (xs = ys))) ∧ Below w.heap.size w w' := by
  have H1 := Lib.hid (fun (w' : World) (hb : Below w.heap.size w w') => h1.kept (S' := fun _ => True) (Sm.of_below hb) (fun _ _ => trivial) (fun _ _ => trivial))
  have H2 := Lib.hid (fun (w' : World) (hb : Below w.heap.size w w') => h2.kept (S' := fun _ => True) (Sm.of_below hb) (fun _ _ => trivial) (fun _ _ => trivial))
  obtain ⟨a, c, rfl⟩ := h1.form
  obtain ⟨a', c', rfl⟩ := h2.form
  by_cases hl : xs.length = ys.length
  · have HL := Lib.hid hl
    have hle : xs.length ≤ ys.length := by omega
    have hne : ((xs.length : Int) != (ys.length : Int)) = false := by rw [hl]; simp
    clear hl h1 h2
    go_enter Try.func46, Try.ntmps46
    go_wp2
    go_loopw [17] (fun i wr => ∃ k : Nat, k ≤ xs.length ∧ i = .int .i64 k ∧ xs.take k = ys.take k ∧ Below w.heap.size w wr) (fun i _ => xs.length - (intOf i).toNat)
    case atStart => exact ⟨0, Nat.zero_le _, rfl, rfl, Below.refl _ _⟩
    case round =>
      obtain ⟨k, hk, rfl, ht, hb⟩ := hrel
      have HT := Lib.hid ht; clear ht
      by_cases hlt : k < xs.length
      · have hlt2 : k < ys.length := by omega
        have hki : (k : Int) < (xs.length : Int) := by omega
        have hki2 : (k : Int) < (ys.length : Int) := by omega
        obtain ⟨g, cap, u, e1, _, _, hc1, hf1⟩ := (H1.out wr hb).at k hlt
        obtain ⟨g2, cap2, u2, e2, _, _, hc2, hf2⟩ := (H2.out wr hb).at k hlt2
        obtain ⟨rfl, _, rfl⟩ := Value.slice.inj e1
        obtain ⟨rfl, _, rfl⟩ := Value.slice.inj e2
        have C := Lib.hid (by have := Equal_any _ _ _ _ wr hf1.ints hf2.ints; rw [dec_toI] at this; exact this)
        have HB := Lib.hid hb
        obtain ⟨ua, uc, uf, _⟩ := hf1.slice
        obtain ⟨ua2, uc2, uf2, _⟩ := hf2.slice
        subst uf
        subst uf2
        clear hf1 hf2 hb e1 e2
        by_cases hxy : xs[k] = ys[k]
        · have HXY := Lib.hid hxy
          have HD := Lib.hid (show decide (xs[k] = ys[k]) = true by simpa using hxy)
          have HTS := Lib.hid (show xs.take (k + 1) = ys.take (k + 1) by rw [take_succ' xs k hlt, take_succ' ys k hlt2, HT.out, hxy])
          clear hxy
          go_wp2_with (go_at_call 12; refine C.out.mono ?_; rintro e w2 ⟨rfl, hb2⟩; rw [HD.out])
          go_roundw
          case rel => exact ⟨k + 1, by omega, by go_num, HTS.out, HB.out.trans (hb2.mono HB.out.size)⟩
          case measure => simp [intOf]; omega
        · have HD := Lib.hid (show decide (xs[k] = ys[k]) = false by simpa using hxy)
          have HE := Lib.hid (show decide (xs = ys) = false by rw [decide_eq_false_iff_not]; intro e; subst e; exact hxy rfl)
          clear hxy
          go_wp2_with (go_at_call 12; refine C.out.mono ?_; rintro e w2 ⟨rfl, hb2⟩; rw [HD.out])
          go_ret
          exact ⟨ret_bool HE.out.symm, HB.out.trans (hb2.mono HB.out.size)⟩
      · have hki : ¬ (k : Int) < (xs.length : Int) := by omega
        have HE := Lib.hid (show decide (xs = ys) = true by
          have := HT.out
          rw [List.take_of_length_le (show xs.length ≤ k by omega), List.take_of_length_le (show ys.length ≤ k by have := HL.out; omega)] at this
          simpa using this)
        go_wp2
        go_ret
        exact ⟨ret_bool HE.out.symm, hb⟩
  · have HE := Lib.hid (show decide (xs = ys) = false by rw [decide_eq_false_iff_not]; intro e; exact hl (by rw [e]))
    have hne : ((xs.length : Int) != (ys.length : Int)) = true := by simp; omega
    clear hl h1 h2
    go_enter Try.func46, Try.ntmps46
    go_wp2
    go_ret
    exact ⟨ret_bool HE.out.symm, Below.refl _ _⟩

set_option maxRecDepth 20000 in
theorem same_any {S S' : Nat → Prop} {B B' : Nat} (v1 v2 : Value) (xs ys : List (List Nat)) (w : World) (h1 : RowsF S B w v1 xs) (h2 : RowsF S' B' w v2 ys) (hx : xs.length ≤ 1000000) :
    Calls Try.prog 24 #[v1, v2] w fun e w' => e = .returned (.bool (decide (xs = ys))) ∧ Below w.heap.size w w' := by
  have C := Lib.hid (EqualF_any v1 v2 xs ys w h1 h2 hx)
  obtain ⟨a, c, rfl⟩ := h1.form
  obtain ⟨a', c', rfl⟩ := h2.form
  clear h1 h2
  go_enter Try.func24, Try.ntmps24
  go_wp2_with (go_at_call 46; refine C.out.mono ?_; rintro e w2 ⟨rfl, hb2⟩)
  go_ret
  exact ⟨rfl, hb2⟩
end Go.Proofs.Ytdackakjcnnofaa

/- What every law's statement asks beside its walk: a witness, the arguments opened, the form closed. -/
namespace Go.Proofs.Ytdackakjcnnofaa
open Go.RowKit Go.ChangeShapes Go.WideShapes Go.ChangeAt Go.WideElems Go.Joins Go.Deep

theorem ownK : ownKnob Try.prog.godebug = none := by kernel_rfl
theorem cellsInt : Try.prog.cellsOf 3 = 1 := by kernel_rfl
theorem bytesInt : Try.prog.bytesOf 3 = 8 := by kernel_rfl
theorem laidOut : laidOutB Try.prog = true := by kernel_rfl
section
variable {H : Type} {enc : TypeId × Value → H}

set_option maxRecDepth 100000 in
theorem slice_arg {W : World} {base : Nat} {v0 : Value} {d0 : DataW H} {p0 : List MemPlace} (hok : Value.okWide Try.prog W .any base 28 v0) (h0 : DataW.Trod enc Try.prog W 0 (fun _ => true) true 28 v0 d0 p0)
    (hs : ∀ elems spare, d0 = .slice elems spare → (elems.length + spare.length) * 8 ≤ reachBytes) (hlt : ∀ x ∈ p0, x.block < W.heap.size) : ∃ xs, Ints W v0 xs := by
  obtain ⟨a0, len, cap, rfl⟩ := okWide_slice Try.underlying28 hok
  obtain ⟨fuel0, hf⟩ := h0
  rcases open_ints Try.underlying28 Try.underlying3 cellsInt hf with ⟨hcs, hx⟩ | ⟨a, len', cap', zs, hcs, _, hl, hm, hz, hx, hcell, hwz⟩
  · simp [Value.cells] at hcs
    obtain ⟨rfl, rfl, rfl⟩ := hcs
    exact ⟨[], Ints.nil W⟩
  · simp [Value.cells] at hcs
    obtain ⟨rfl, rfl, rfl⟩ := hcs
    simp only [Prod.mk.injEq] at hx
    obtain ⟨rfl, rfl⟩ := hx
    simp only [if_true] at hz
    have hlen : (zs.take len).length = len := by simp; omega
    have hreach := hs _ _ rfl
    simp only [lits, List.length_map, List.length_take, List.length_drop, reachBytes] at hreach
    refine ⟨zs.take len, some a, cap, by rw [hlen], by rw [hlen]; omega, by rw [hlen]; exact hl, fun hne => ?_⟩
    have h0l : 0 < len := by rw [← hlen]; exact List.length_pos_iff.2 hne
    obtain ⟨b, off, spot⟩ := a
    have hspot : spot = none := by simpa [Addr.add] using World.cell?_spot (hcell 0 (by omega))
    subst hspot
    refine ⟨b, off, rfl, World.block_lt_of_cell? W _ (hcell 0 (by omega)), fun i hi => ?_⟩
    rw [hlen] at hi
    have := hcell i (by omega)
    rw [add_plain] at this
    rw [this]
    simp [List.getD, List.getElem?_eq_getElem (show i < zs.length by omega)]

theorem weightsAll_mem {P : Program} {e : TypeId} {n : Nat} : ∀ {ds : List (DataW H)} {d : DataW H}, d ∈ ds → n ∈ d.weights P e → n ∈ DataW.weightsAll P e ds
  | [], _, h, _ => by simp at h
  | x :: ds, d, h, hn => by
    rw [DataW.weightsAll, List.mem_append]
    rcases List.mem_cons.1 h with rfl | h
    · exact .inl hn
    · exact .inr (weightsAll_mem h hn)
theorem cellsInts : Try.prog.cellsOf 28 = 1 := by kernel_rfl
set_option maxRecDepth 100000 in
theorem rows_arg {W : World} {base : Nat} {v0 : Value} {d0 : DataW H} {p0 : List MemPlace} (hok : Value.okWide Try.prog W .any base 22 v0) (h0 : DataW.Trod enc Try.prog W 0 (fun _ => true) true 22 v0 d0 p0)
    (hs : ∀ n ∈ d0.weights Try.prog 22, n ≤ reachBytes) : ∃ L, Args W v0 L := by
  obtain ⟨a0, len, cap, rfl⟩ := okWide_slice Try.underlying22 hok
  obtain ⟨fuel0, hf⟩ := h0
  rcases open_int_rows Try.underlying22 Try.underlying28 Try.underlying3 cellsInts cellsInt hf with ⟨hcs, hx⟩ | ⟨a, len', cap', A, Ln, C, Z, hcs, _, hl, hm, hx, hr⟩
  · simp [Value.cells] at hcs
    obtain ⟨rfl, rfl, rfl⟩ := hcs
    exact ⟨[], none, 0, rfl, by simp, by simp, fun h => absurd rfl h⟩
  · simp [Value.cells] at hcs
    obtain ⟨rfl, rfl, rfl⟩ := hcs
    simp only [Prod.mk.injEq] at hx
    obtain ⟨rfl, rfl⟩ := hx
    have hlen : ((List.range len).map fun r => (Z r).take (Ln r)).length = len := by simp
    have hw : (len + (cap - len)) * Try.prog.bytesOf 28 ≤ reachBytes := by
      have := hs ((len + (cap - len)) * Try.prog.bytesOf 28) (by
        rw [DataW.weights, Try.underlying22]
        simp)
      exact this
    have hb24 : Try.prog.bytesOf 28 = 24 := by kernel_rfl
    rw [hb24] at hw
    have hreach : reachBytes < 2 ^ 47 := reachBytes_lt
    refine ⟨(List.range len).map fun r => (Z r).take (Ln r), some a, cap, by rw [hlen], by rw [hlen]; omega, by rw [hlen]; exact hl, fun hne => ?_⟩
    have h0l : 0 < len := by rw [← hlen]; exact List.length_pos_iff.2 hne
    obtain ⟨b, off, spot⟩ := a
    have hspot : spot = none := by simpa [Addr.add] using World.cell?_spot (hr 0 (by omega)).1
    subst hspot
    refine ⟨b, off, rfl, World.block_lt_of_cell? W _ (hr 0 (by omega)).1, fun i hi => ?_⟩
    rw [hlen] at hi
    obtain ⟨h1, h2, h3, h4, h5, h6, h7⟩ := hr i (by omega)
    rw [add_plain] at h1
    refine ⟨_, h1, ?_⟩
    have hli : ((Z i).take (Ln i)).length = Ln i := by rw [List.length_take]; omega
    have hget : ((List.range len).map fun r => (Z r).take (Ln r))[i]'(by rw [hlen]; exact hi) = (Z i).take (Ln i) := by simp
    rw [hget]
    cases hA : A i with
    | none =>
      have := h6 hA
      have hz : Ln i = 0 := by omega
      have hz2 : (Z i).take (Ln i) = [] := by rw [hz]; rfl
      rw [hz2, hz]
      exact ⟨none, C i, rfl, by simp, by simp, fun h => absurd rfl h⟩
    | some a' =>
      obtain ⟨h8, h9⟩ := h7 a' hA
      have hw2 : (Ln i + (C i - Ln i)) * 8 ≤ reachBytes := by
        have := hs ((((Z i).take (Ln i)).length + ((Z i).drop (Ln i)).length) * Try.prog.bytesOf 3) (by
          rw [DataW.weights, Try.underlying22]
          refine List.mem_cons_of_mem _ (List.mem_append_left _ ?_)
          refine weightsAll_mem (d := intRow .i64 (A i) (Ln i) (Z i)) (List.mem_map.2 ⟨i, List.mem_range.2 hi, rfl⟩) ?_
          rw [hA]
          unfold intRow
          rw [DataW.weights, Try.underlying28]
          simp [lits])
        rw [bytesInt, hli, List.length_drop, h4] at this
        exact this
      refine ⟨some a', C i, by rw [hli], by rw [hli]; omega, by rw [hli]; exact h2, fun hne2 => ?_⟩
      have h0i : 0 < Ln i := by rw [← hli]; exact List.length_pos_iff.2 hne2
      obtain ⟨b', off', spot'⟩ := a'
      have hspot' : spot' = none := by simpa [Addr.add] using World.cell?_spot (h9 0 (by omega))
      subst hspot'
      refine ⟨b', off', rfl, World.block_lt_of_cell? W _ (h9 0 (by omega)), fun j hj => ?_⟩
      rw [hli] at hj
      have := h9 j (by omega)
      rw [add_plain] at this
      rw [this]
      simp [List.getD, List.getElem?_eq_getElem (show j < (Z i).length by omega)]

set_option maxRecDepth 100000 in
theorem below_trodAll {W W' : World} (hb : Below W.heap.size W W') : ∀ {ts : List TypeId} {vs : List Value} {ds : List (DataW H)} {p : List MemPlace}, (∀ t ∈ ts, Try.prog.readableRec t = true ∧ t < Try.prog.types.size) →
    (∀ x ∈ p, x.block < W.heap.size) → DataW.TrodAll enc Try.prog W 0 (fun _ => true) true ts vs ds p → DataW.TrodAll enc Try.prog W' 0 (fun b => decide (b < W.heap.size)) true ts vs ds p
  | [], _, _, _, _, _, h => by
    obtain ⟨rfl, rfl, rfl⟩ := trodAll_nil h
    exact rfl
  | t :: ts, _, _, _, ht, hlt, h => by
    obtain ⟨v, vs1, d, ds1, a, b, rfl, rfl, rfl, h1, h2⟩ := trodAll_cons h
    refine trodAll_cons_mk (Below.trod laidOut (ht t List.mem_cons_self).1 (ht t List.mem_cons_self).2 h1 hb (fun x hx => hlt x (List.mem_append_left _ hx))) ?_
    exact below_trodAll hb (fun u hu => ht u (List.mem_cons_of_mem _ hu)) (fun x hx => hlt x (List.mem_append_right _ hx)) h2

set_option maxRecDepth 100000 in
/-- A law that answered true and left what lay before. -/
theorem post_law {spec : ChangeSpec} {fn : Func} {W W' : World} {args : Array Value} {ds : List (DataW H)} {p : List MemPlace} (hv : spec.vars = [])
    (hW : DataW.Whole enc Try.prog fn.params.toList spec.vars false W args.toList ds [] p)
    (hfn : spec.fn H (ds ++ []) = { results := [.lit (.bool true)], args := ds }) (hres : fn.resultTypes = #[4]) (hr : ∀ t ∈ fn.params.toList, Try.prog.readableRec t = true ∧ t < Try.prog.types.size)
    (hB : Below W.heap.size W W') : spec.post enc Try.prog fn false true false false W args (.bool true) W' := by
  have hlt : ∀ x ∈ p, x.block < W.heap.size := fun x hx => by simpa using hW.lt x hx
  refine ⟨ds, [], p, [], p, [], hW, ?_, ?_, ?_, hB.frame _, fun h => by cases h⟩
  · rw [hfn, hres]; exact trodAll_mk1 (shut_bool Try.underlying4 true)
  · rw [hfn]
    obtain ⟨p', q, hA, hV, rfl, _, _⟩ := hW
    rw [hv] at hV
    obtain ⟨_, rfl⟩ := trodVars_none hV
    rw [List.append_nil] at hlt ⊢
    exact below_trodAll hB hr hlt hA
  · rw [hfn, hv]; rfl
end
end Go.Proofs.Ytdackakjcnnofaa
