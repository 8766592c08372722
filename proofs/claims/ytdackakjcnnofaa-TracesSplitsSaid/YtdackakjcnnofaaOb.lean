/- traces.Orbits. -/
import Derived.Test.YtdackakjcnnofaaFx
import Derived.Test.YtdackakjcnnofaaLc
namespace Go.Proofs.Ytdackakjcnnofaa
open Go.RowKit
attribute [local go_sem] Oper.semAt_some

theorem sortN {B g n cap : Nat} {w : World} {xs : List Int} (h : OwnI 3 B w (.slice (some ⟨g, 0, none⟩) n cap) xs) (hn : xs.length = n) (hlen : n ≤ 100000) :
    Calls Try.prog 31 #[.slice (some ⟨g, 0, none⟩) n cap] w fun e w' => e = .returned (.tuple #[]) ∧ OwnI 3 B w' (.slice (some ⟨g, 0, none⟩) n cap) (sortL xs) ∧ w.grownBy w' (some g) := by
  subst hn; exact sortI_any h hlen
theorem compN {B g n cap : Nat} {w : World} {xs ys : List Int} (h : OwnI 3 B w (.slice (some ⟨g, 0, none⟩) n cap) xs) (hn : xs.length = n) (hlen : n ≤ 100000) (hy : Lib.compact xs = ys) :
    Calls Try.prog 32 #[.slice (some ⟨g, 0, none⟩) n cap] w fun e w' => e = .returned (.slice (some ⟨g, 0, none⟩) ys.length cap) ∧ OwnI 3 B w' (.slice (some ⟨g, 0, none⟩) ys.length cap) ys ∧ w.grownBy w' (some g) := by
  subst hn hy; exact compactI_any h hlen
/-- The orbits of the first numbers. -/
def orbTo (E : List (List Nat)) (d k : Nat) : List (List Nat) := ((List.range k).filter (firstO E)).map (orbN E d)
theorem orbTo_end (E : List (List Nat)) (d : Nat) : orbTo E d d = orbitsN E d := rfl
theorem orbTo_first {E : List (List Nat)} {d k : Nat} (h : firstO E k = true) : orbTo E d (k + 1) = orbTo E d k ++ [orbN E d k] := by simp [orbTo, List.range_succ, h]
theorem orbTo_no {E : List (List Nat)} {d k : Nat} (h : firstO E k = false) : orbTo E d (k + 1) = orbTo E d k := by simp [orbTo, List.range_succ, h]
theorem orbTo_len (E : List (List Nat)) (d k : Nat) : (orbTo E d k).length ≤ k := by
  unfold orbTo
  rw [List.length_map]
  exact Nat.le_trans (List.length_filter_le _ _) (by simp)
theorem orbN_len (E : List (List Nat)) (d i : Nat) : (orbN E d i).length ≤ d := Nat.le_trans (List.length_filter_le _ _) (by simp)
section
variable {v : Value} {L : List (List Int)} {w : World} {E : List (List Nat)}
theorem Orbits_no (h : Args w v L) (hq : genQ L = false) : Calls Try.prog 20 #[v] w fun e w' => e = .returned (.tuple #[.slice none 0 0, .int .i64 2]) ∧ Below w.heap.size w w' := by
  have RD := Lib.hid (read_no h hq)
  clear h hq
  go_enter Try.func20, Try.ntmps20
  go_wp2_with (go_at_call 21; refine RD.out.mono ?_; rintro e w1 ⟨rfl, hb⟩)
  go_ret2
  exact ⟨rfl, hb⟩
theorem Orbits_over (h : Args w v L) (hq : genQ L = true) (ho : Over (L.headD []).length (L.map natP)) : Calls Try.prog 20 #[v] w fun e w' => e = .returned (.tuple #[.slice none 0 0, .int .i64 6]) ∧ Below w.heap.size w w' := by
  have RD := Lib.hid (read_over h hq ho)
  clear h hq ho
  go_enter Try.func20, Try.ntmps20
  go_wp2_with (go_at_call 21; refine RD.out.mono ?_; rintro e w1 ⟨rfl, hb⟩)
  go_ret2
  exact ⟨rfl, hb⟩
set_option maxRecDepth 100000 in
set_option maxHeartbeats 4000000 in
theorem Orbits_yes (h : Args w v L) (hq : genQ L = true) (hg : IsG (L.headD []).length (L.map natP) E) : Calls Try.prog 20 #[v] w fun e w' => ∃ u S, e = .returned (.tuple #[u, .int .i64 0]) ∧ GrowR w.heap.size w' u (orbitsN E (L.headD []).length) S ∧ Below w.heap.size w w' := by
  have RD := Lib.hid (read_yes h hq hg)
  have hp := genQ_perm hq
  have HGR := Lib.hid (hg.grp fun q hq => by obtain ⟨p, hp1, rfl⟩ := List.mem_map.1 hq; exact hp.2.2.2.2.1 p hp1)
  have hd5 := hp.2.2.2.1
  have h24 := hg.few
  obtain ⟨d, hd⟩ : ∃ d, (L.headD []).length = d := ⟨_, rfl⟩
  rw [hd] at RD HGR hd5 ⊢
  obtain ⟨n, hn⟩ : ∃ n, E.length = n := ⟨_, rfl⟩
  have HN := Lib.hid hn
  rw [hn] at h24
  have hn0 := HGR.out.pos
  rw [hn] at hn0
  clear h hq hg hp hd hn
  go_enter Try.func20, Try.ntmps20
  go_wp2_with (go_at_call 21; refine RD.out.mono ?_; rintro e w1 ⟨bg, rfl, hp, hb⟩; obtain ⟨H, S, vE, bM, vC, vO, vB, hs⟩ := hp; have hc := hs.box.at (i := 0) rfl; have HBX := Lib.hid hs.box; have HEL := Lib.hid hs.els; have HB := Lib.hid hb; obtain ⟨gE, cE, rfl, -, -, -⟩ := hs.els; rw [elsI_length, HN.out] at HBX HEL; clear hs hb)
  go_loopw [6, 23] (fun vr ix wr => ∃ (k : Nat) (S : Nat → Prop), k ≤ d ∧ ix = .int .i64 k ∧ GrowR w1.heap.size wr vr (orbTo E d k) S ∧ Below w1.heap.size w1 wr) (fun _ ix _ => d - (intOf ix).toNat)
  case atStart => exact ⟨0, _, Nat.zero_le _, rfl, GrowR.nil _ _, Below.refl _ _⟩
  case round =>
    obtain ⟨k, S, hk, rfl, hg, hb1⟩ := hrel
    obtain ⟨wA, rfl⟩ : ∃ x, x = wr := ⟨_, rfl⟩
    have HG := Lib.hid hg
    have HB1 := Lib.hid hb1
    have hle1 := hb1.size
    obtain ⟨a6, c6, rfl⟩ := hg.1.form
    have HOL := Lib.hid (show (orbTo E d k).length < 1000000 by have := orbTo_len E d k; omega)
    clear hg hb1
    by_cases hlt : k < d
    · have hki : (k : Int) < (d : Int) := by omega
      have hx1 := (HBX.out.below HB1.out HBX.out.lt).at (i := 1) rfl
      have hk0 : (0 : Int) ≤ (k : Int) := by omega
      have hk5 : (k : Int) < 5 := by omega
      go_wp2
      go_loopw [8, 31] (fun vl jx wq => ∃ j : Nat, j ≤ n ∧ jx = .int .i64 j ∧ OwnI 3 wA.heap.size wq vl (toI ((E.take j).map fun x => x.getD k 0)) ∧ Below wA.heap.size wA wq) (fun _ jx _ => n - (intOf jx).toNat)
      case atStart => exact ⟨0, Nat.zero_le _, rfl, OwnI.nil _ _ _, Below.refl _ _⟩
      case round =>
        obtain ⟨j, hj, rfl, ho, hb2⟩ := hrel
        have HO := Lib.hid ho
        have HB2 := Lib.hid hb2
        have hle2 := hb2.size
        obtain ⟨a8, n8, c8, rfl⟩ := own_form ho
        by_cases hjl : j < n
        · have hji : (j : Int) < (n : Int) := by omega
          have hj0 : (0 : Int) ≤ (j : Int) := by omega
          obtain ⟨x, hx⟩ : ∃ x, E[j]? = some x := ⟨_, List.getElem?_eq_getElem (by rw [HN.out]; exact hjl)⟩
          have hpx := HGR.out.perm x (List.mem_of_getElem? hx)
          have HT := Lib.hid (show toI ((E.take (j + 1)).map fun x => x.getD k 0) = toI ((E.take j).map fun x => x.getD k 0) ++ [((x.getD k 0 : Nat) : Int)] by rw [List.take_add_one, hx, List.map_append, toI_append]; rfl)
          have HX5 := Lib.hid (elI_len hd5 hpx)
          have HXR := Lib.hid ((HEL.out.below (HB1.out.trans (HB2.out.mono hle1))).range (elsI_get hx) HX5.out)
          have HCX := Lib.hid (cs5_el hpx hlt)
          have HTL := Lib.hid (show (toI ((E.take j).map fun x => x.getD k 0)).length < 1000000 by rw [toI_length, List.length_map, List.length_take]; omega)
          obtain ⟨X, hX⟩ : ∃ X, elI d x = X := ⟨_, rfl⟩
          rw [hX] at HX5 HXR HCX
          obtain ⟨y, hy⟩ : ∃ y, x.getD k 0 = y := ⟨_, rfl⟩
          rw [hy] at HT HCX
          clear hx hpx hX hy ho hb2
          go_wp2_with (first
            | ((with_reducible refine is_load 54 ?_); refine wpList_load_mid (by rfl) 54 _ (by rfl) gE (j * 5) (by rfl) (cs5 X) _ HXR.out Try.underlying54 rfl (infoLl HX5.out) ?_)
            | ((with_reducible refine is_store 54 ?_); refine wpl_store_elem (by rfl) _ _ (by rfl) wr.heap.size X zeroE HX5.out (by rfl) (by rfl) (by rfl) (Held.made rfl) ?_; intro W2 hh2 hs2 hz2; have hcx := hh2.at HCX.out; have HB3 := Lib.hid (show Below wr.heap.size wr W2 from hs2.below ((Below.refl _ _).alloc (Nat.le_refl _) _) (Nat.le_refl _) (by simp)); clear hh2 hs2 hz2)
            | (at_builtin; refine wpList_app1_at rfl _ _ rfl wA.heap.size _ (toI ((E.take j).map fun x => x.getD k 0)) ((y : Nat) : Int) rfl ((HO.out.below HB3.out).alloc _) ⟨_, 0, none⟩ 1 rfl (cell_new1 _ _ _) HTL.out (by have := HB3.out.size; simp; omega) ?_; intro v4 w4 ho4 hg4 hl4; have HO4 := Lib.hid ho4; have HB4 := Lib.hid (((HB2.out.trans (HB3.out.mono hle2)).alloc (by have := HB3.out.size; omega) _).grown hg4 (by have := HB3.out.size; simp; omega) (fun j hj => (HO.out.lt j hj).1)); clear ho4 hg4 hl4))
          go_roundw
          case rel => exact ⟨j + 1, hjl, by go_num, by rw [HT.out]; exact HO4.out, HB4.out⟩
          case measure => simp [intOf]; omega
        · obtain rfl : j = n := by omega
          have hji : ¬ (j : Int) < (j : Int) := by omega
          have hOC := HGR.out.orb_comp hlt
          rw [List.take_of_length_le (by rw [HN.out]; exact Nat.le_refl _)] at ho
          have hxl : (toI (E.map fun x => x.getD k 0)).length = j := by rw [toI_length, List.length_map, HN.out]
          obtain ⟨xs, hxs⟩ : ∃ xs, toI (E.map fun x => x.getD k 0) = xs := ⟨_, rfl⟩
          rw [hxs] at hOC ho hxl
          obtain ⟨g8, c9, he8, hg8, -⟩ := ho.block (by omega)
          obtain ⟨rfl, rfl, rfl⟩ := Value.slice.inj he8
          rw [hxl] at ho ⊢
          have hsl := sortL_length xs
          rw [hxl] at hsl
          have SO := Lib.hid (sortN ho hxl (by omega))
          have hor := orb_sorted E d k
          have hohd := HGR.out.orb_head hlt
          have hol := orbN_len E d k
          have hok : k ∈ orbN E d k := List.mem_filter.2 ⟨List.mem_range.2 hlt, HGR.out.orb_refl hlt⟩
          have hop := List.length_pos_of_mem hok
          obtain ⟨l, hl⟩ : ∃ l, orbN E d k = l := ⟨_, rfl⟩
          have HL := Lib.hid hl
          have HOF := Lib.hid (fun h => orbTo_first (E := E) (d := d) (k := k) h)
          rw [hl] at hOC hohd hol hop HOF
          obtain ⟨z, hz⟩ : ∃ z, l[0]? = some z := ⟨_, List.getElem?_eq_getElem hop⟩
          rw [hz] at hohd
          have hohd2 : firstO E k = true ↔ z = k := by rw [← hohd]; simp
          have HOC := Lib.hid hOC
          have HSL := Lib.hid hsl
          have HLI := Lib.hid (toI_length l)
          have HZ := Lib.hid (show (toI l)[0]? = some ((z : Nat) : Int) by rw [show (toI l)[0]? = (l[0]?).map fun x : Nat => (x : Int) from List.getElem?_map, hz]; rfl)
          have HTP := Lib.hid (show 0 < (toI l).length by rw [toI_length]; exact hop)
          have hopi : (0 : Int) < (l.length : Int) := by omega
          clear hxs hohd hor hok hl hz hOC hsl ho he8 hb2
          by_cases hzk : z = k
          · have HF := Lib.hid (HOF.out (hohd2.2 hzk))
            have hzi : (z : Int) = (k : Int) := by omega
            clear hohd2 HOF
            have HLM := Lib.hid (show l.length ≤ 1000000 by omega)
            have hzz := hzi
            go_wp2_with (first
              | (go_at_call 31; refine SO.out.mono ?_; rintro e w3 ⟨rfl, ho3, hg3⟩; have HB3 := Lib.hid (HB2.out.grown hg3 hle2 (fun j hj => by cases hj; exact hg8)); have CO := Lib.hid (compN ho3 HSL.out (by omega) HOC.out); clear ho3 hg3)
              | (go_at_call 32; refine CO.out.mono ?_; rintro e w4 ⟨rfl, ho4, hg4⟩; have HB4 := Lib.hid (HB3.out.grown hg4 HB3.out.size (fun j hj => by cases hj; exact hg8)); rw [HLI.out] at ho4 ⊢; have hc4 : w4.cell? ⟨g8, 0, none⟩ = some (.int .i64 ((z : Nat) : Int)) := (ho4.cellN (j := 0) HLI.out.symm HTP.out).trans (by rw [(List.getElem?_eq_some_iff.1 HZ.out).2]); have HO4 := Lib.hid ho4; clear ho4 hg4)
              | (at_builtin; refine wpList_appF rfl _ _ rfl (fun j => S j ∨ (Value.slice (some ⟨g8, 0, none⟩) l.length c8).ownBlock = some j) w1.heap.size w4.heap.size (.slice a6 (orbTo E d k).length c6) (.slice (some ⟨g8, 0, none⟩) l.length c8) (orbTo E d k) l rfl ((HG.out.grow HB4.out HO4.out HLM.out).1.1.alloc _) ((HG.out.grow HB4.out HO4.out HLM.out).2.kept (Sm.of_below ((Below.refl _ _).alloc (Nat.le_refl _) _))) rfl (Held.made rfl) (fun j hj => ((HG.out.grow HB4.out HO4.out HLM.out).1.2 j hj).2) HOL.out (by have := HB4.out.size; simp; omega) ?_; intro v5 w5 hr5 hg5 ho5; have HR5 := Lib.hid (GrowR.app (b := 0) (HG.out.grow HB4.out HO4.out HLM.out).1 ((Below.refl _ _).alloc (Nat.le_refl _) _) hr5 hg5 ho5 rfl); have HB5 := Lib.hid (((HB1.out.trans (HB4.out.mono hle1)).alloc (by have := HB4.out.size; omega) _).grown hg5 (by have := HB4.out.size; simp; omega) (fun j hj => (HG.out.1.own j hj).1)); clear hr5 hg5 ho5))
            go_roundw
            case rel => exact ⟨k + 1, _, hlt, by go_num, by rw [HF.out]; exact HR5.out, HB5.out⟩
            case measure => simp [intOf]; omega
          · have HF := Lib.hid (orbTo_no (d := d) (Bool.eq_false_iff.2 fun hf => hzk (hohd2.1 hf)))
            have hzi : ¬ (z : Int) = (k : Int) := by omega
            clear hohd2 HOF
            go_wp2_with (first
              | (go_at_call 31; refine SO.out.mono ?_; rintro e w3 ⟨rfl, ho3, hg3⟩; have HB3 := Lib.hid (HB2.out.grown hg3 hle2 (fun j hj => by cases hj; exact hg8)); have CO := Lib.hid (compN ho3 HSL.out (by omega) HOC.out); clear ho3 hg3)
              | (go_at_call 32; refine CO.out.mono ?_; rintro e w4 ⟨rfl, ho4, hg4⟩; have HB4 := Lib.hid (HB3.out.grown hg4 HB3.out.size (fun j hj => by cases hj; exact hg8)); rw [HLI.out] at ho4 ⊢; have hc4 : w4.cell? ⟨g8, 0, none⟩ = some (.int .i64 ((z : Nat) : Int)) := (ho4.cellN (j := 0) HLI.out.symm HTP.out).trans (by rw [(List.getElem?_eq_some_iff.1 HZ.out).2]); have HO4 := Lib.hid ho4; clear ho4 hg4))
            go_roundw
            case rel => exact ⟨k + 1, S, hlt, by go_num, by rw [HF.out]; exact ⟨HG.out.1.below HB4.out, fun j hj => ⟨Nat.lt_of_lt_of_le (HG.out.2 j hj).1 HB4.out.size, (HG.out.2 j hj).2⟩⟩, HB1.out.trans (HB4.out.mono hle1)⟩
            case measure => simp [intOf]; omega
    · obtain rfl : k = d := by omega
      have hki : ¬ (k : Int) < (k : Int) := by omega
      go_wp2_with fail
      go_ret2
      have h0 := HG.out
      rw [orbTo_end] at h0
      exact ⟨_, rfl, ⟨_, h0.1.base HB.out.size, h0.2⟩, HB.out.trans (HB1.out.mono HB.out.size)⟩
end
end Go.Proofs.Ytdackakjcnnofaa
