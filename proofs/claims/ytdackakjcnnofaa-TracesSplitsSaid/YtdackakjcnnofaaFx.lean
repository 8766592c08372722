/- traces.Fixed. -/
import Derived.Test.YtdackakjcnnofaaA13
import Derived.Test.YtdackakjcnnofaaFr
import Derived.Test.YtdackakjcnnofaaCa
import Derived.BigQuiet
namespace Go.Proofs.Ytdackakjcnnofaa
open Go.RowKit
attribute [local go_sem] Oper.semAt_some

theorem fixedN_length (E : List (List Nat)) : (fixedN E).length = (repsN E E.length).length := by simp [fixedN]
theorem fixedN_at (E : List (List Nat)) {k : Nat} (hk : k < (repsN E E.length).length) : (fixedN E)[k]? = some (fixP (elP E (repsN E E.length)[k])) := by
  unfold fixedN
  rw [List.getElem?_map, List.getElem?_eq_getElem hk]
  rfl
/-- How many of the first numbers stay. -/
def fixTo (x : List Nat) (j : Nat) : Nat := (List.range j).countP fun i => x.getD i 0 == i
theorem fixTo_zero (x : List Nat) : fixTo x 0 = 0 := rfl
theorem fixTo_succ (x : List Nat) (j : Nat) : fixTo x (j + 1) = fixTo x j + if x.getD j 0 = j then 1 else 0 := by
  simp only [fixTo, List.range_succ, List.countP_append, List.countP_singleton, beq_iff_eq]
theorem fixTo_le (x : List Nat) (j : Nat) : fixTo x j ≤ j := by
  unfold fixTo
  refine Nat.le_trans List.countP_le_length (by simp)
section
variable {v : Value} {L : List (List Int)} {w : World} {E : List (List Nat)} {d : Nat}
set_option maxRecDepth 20000 in
set_option maxHeartbeats 4000000 in
theorem fixed_any (bg : Nat) (w : World) (h : Grp d E) (hd : d ≤ 5) (h24 : E.length ≤ 24) (hp : PG d E w bg) :
    Calls Try.prog 30 #[.pointer (some ⟨bg, 0, none⟩)] w fun e w' => ∃ v', e = .returned v' ∧ OwnI 3 w.heap.size w' v' (toI (fixedN E)) ∧ Below w.heap.size w w' := by
  obtain ⟨H, S, vE, bM, vC, vO, vB, hs⟩ := hp
  have HG := Lib.hid h
  have HBX := Lib.hid hs.box
  have HEL := Lib.hid hs.els
  have hbgl := hs.box.lt
  obtain ⟨aC, cC, rfl⟩ := hs.c.form
  have HCL := Lib.hid (show (classesN E).length = (repsN E E.length).length by simp [classesN])
  have hml := reps_len (E := E) E.length
  have hmp : 0 < (repsN E E.length).length := by
    have h0 : firstB E 0 = true := first_iff.2 fun b hb => absurd hb (Nat.not_lt_zero _)
    exact List.length_pos_of_mem (reps_mem.2 ⟨h.pos, h0⟩)
  obtain ⟨-, gC, rfl, hgC⟩ := rows_fix hs.c (by rw [HCL.out]; exact hmp)
  have HRA := Lib.hid hgC
  have HFL := Lib.hid (fixedN_length E)
  have HFA := Lib.hid (fun k hk => fixedN_at E (k := k) hk)
  have HCF := Lib.hid (fun k h1 h2 => h.cls_first (k := k) h1 h2)
  obtain ⟨gE, cE, rfl, -, hgE, -⟩ := hs.els
  obtain ⟨n, hn⟩ : ∃ n, E.length = n := ⟨_, rfl⟩
  have HN := Lib.hid hn
  have HRM := Lib.hid (fun k (hk : k < (repsN E E.length).length) => show (repsN E E.length)[k] < n by have := (reps_mem.1 (List.getElem_mem hk)).1; omega)
  obtain ⟨m, hmm⟩ : ∃ m, (repsN E E.length).length = m := ⟨_, rfl⟩
  have HMM := Lib.hid hmm
  rw [hmm] at hml
  rw [hn] at h24 hml
  have hc3 := hs.box.at (i := 3) rfl
  rw [HCL.out, hmm] at hc3
  rw [HCL.out, hmm, elsI_length, hn] at HBX
  rw [elsI_length, hn] at HEL
  clear hs h hmm hgC hn
  go_enter Try.func30, Try.ntmps30
  go_wp2
  go_loopw [3, 14] (fun vr ix wr => ∃ k : Nat, k ≤ m ∧ ix = .int .i64 k ∧ OwnI 3 w.heap.size wr vr (toI ((fixedN E).take k)) ∧ Below w.heap.size w wr) (fun _ ix _ => m - (intOf ix).toNat)
  case atStart => exact ⟨0, Nat.zero_le _, rfl, OwnI.nil _ _ _, Below.refl _ _⟩
  case round =>
    obtain ⟨k, hk, rfl, ho, hb⟩ := hrel
    obtain ⟨wA, rfl⟩ : ∃ x, x = wr := ⟨_, rfl⟩
    have HO := Lib.hid ho
    have HB := Lib.hid hb
    obtain ⟨aR, nR, cR, rfl⟩ := own_form ho
    have hle := hb.size
    clear ho
    by_cases hlt : k < m
    · have hki : (k : Int) < (m : Int) := by omega
      have hk2 : k < (repsN E E.length).length := by rw [HMM.out]; exact hlt
      have hkc : k < (classesN E).length := by rw [HCL.out]; exact hk2
      obtain ⟨aU, cU, hrow⟩ := HRA.out k hkc
      have hcr := (hrow wA HB.out).1
      have hcl := HCF.out k hkc hk2
      have hpos : 0 < ((classesN E)[k]).length := (List.getElem?_eq_some_iff.1 hcl).1
      obtain ⟨b1, o1, c1, he, hb1, hc1⟩ := Ints.atN (hrow wA HB.out).2 hpos
      obtain ⟨rfl, -, -⟩ := Value.slice.inj he
      have hrl := HRM.out k hk2
      have hfa := HFA.out k hk2
      rw [(List.getElem?_eq_some_iff.1 hcl).2, Nat.add_zero] at hc1
      obtain ⟨r, hr⟩ : ∃ r, (repsN E E.length)[k] = r := ⟨_, rfl⟩
      rw [hr] at hc1 hrl hfa
      obtain ⟨x, hx⟩ : ∃ x, E[r]? = some x := ⟨_, List.getElem?_eq_getElem (by rw [HN.out]; exact hrl)⟩
      have hpx := HG.out.perm x (List.mem_of_getElem? hx)
      have hel : elP E r = x := by rw [elP, List.getD_eq_getElem?_getD, hx]; rfl
      rw [hel] at hfa
      have hfx : fixP x = fixTo x d := by unfold fixP fixTo; rw [hpx.1]
      rw [hfx] at hfa
      have HT := Lib.hid (show toI ((fixedN E).take (k + 1)) = toI ((fixedN E).take k) ++ [((fixTo x d : Nat) : Int)] by rw [List.take_add_one, hfa, toI_append]; rfl)
      have HXR := Lib.hid (fun (W : World) (hW : Below w.heap.size w W) (j : Nat) (hj : j < d) => show W.cell? ⟨gE, r * 5 + j, none⟩ = some (.int .i64 (x.getD j 0 : Nat)) from ((HEL.out.below hW).range (elsI_get hx) (elI_len hd hpx)) j _ (cs5_el hpx hj))
      have hbe1 := hc1
      obtain ⟨z, hz⟩ : ∃ z, ((classesN E)[k]).length = z := ⟨_, rfl⟩
      rw [hz] at hcr hpos
      have hzi : (0 : Int) < (z : Int) := by omega
      have hri : (r : Int) < (n : Int) := by omega
      have hr0 : (0 : Int) ≤ (r : Int) := by omega
      have hdi : (0 : Int) ≤ (d : Int) := by omega
      have hd5i : (d : Int) ≤ 5 := by omega
      have hx0 := (HBX.out.below HB.out HBX.out.lt).at (i := 0) rfl
      have hx1 := (HBX.out.below HB.out HBX.out.lt).at (i := 1) rfl
      have HTL := Lib.hid (show (toI ((fixedN E).take k)).length < 1000000 by rw [toI_length, List.length_take, HFL.out, HMM.out]; omega)
      clear hx hpx hel hfx hfa hrow hcl he hz hr hbe1
      go_wp2
      go_quiet (fail)
      go_wp2_with fail
      go_loopw [6, 32] (fun s jx wq => ∃ j : Nat, j ≤ d ∧ jx = .int .i64 j ∧ s = .int .i64 (fixTo x j : Nat) ∧ Below wA.heap.size wA wq) (fun _ jx _ => d - (intOf jx).toNat)
      case atStart => exact ⟨0, Nat.zero_le _, rfl, rfl, below_drewN (Below.refl _ _) _⟩
      case round =>
        obtain ⟨j, hj, rfl, rfl, hbq⟩ := hrel
        have HBQ := Lib.hid hbq
        have hfl := fixTo_le x j
        have hleq := hbq.size
        by_cases hjl : j < d
        · have hji : (j : Int) < (d : Int) := by omega
          have hcx := HXR.out wr (HB.out.trans (hbq.mono hle)) j hjl
          have HFS := Lib.hid (fixTo_succ x j)
          obtain ⟨y, hy⟩ : ∃ y, x.getD j 0 = y := ⟨_, rfl⟩
          rw [hy] at HFS hcx
          obtain ⟨f, hf⟩ : ∃ f, fixTo x j = f := ⟨_, rfl⟩
          rw [hf] at HFS hfl ⊢
          clear hy hf hbq
          by_cases hjy : y = j
          · have HFS2 := Lib.hid (show fixTo x (j + 1) = f + 1 by rw [HFS.out, if_pos hjy])
            subst hjy
            go_wp2
            go_roundw
            case rel => exact ⟨y + 1, hjl, by go_num, by rw [HFS2.out]; go_num, HBQ.out⟩
            case measure => simp [intOf]; omega
          · have hjyi : ¬ (j : Int) = (y : Int) := by omega
            have hjyb : ((j : Int) == (y : Int)) = false := by simp; omega
            have HFS2 := Lib.hid (show fixTo x (j + 1) = f by rw [HFS.out, if_neg hjy]; rfl)
            clear hjy
            go_wp2
            go_roundw
            case rel => exact ⟨j + 1, hjl, by go_num, by rw [HFS2.out], HBQ.out⟩
            case measure => simp [intOf]; omega
        · obtain rfl : j = d := by omega
          have hji : ¬ (j : Int) < (j : Int) := by omega
          obtain ⟨f, hf⟩ : ∃ f, fixTo x j = f := ⟨_, rfl⟩
          rw [hf] at HT hfl ⊢
          have HO2 := Lib.hid (HO.out.below hbq)
          clear hf hbq
          go_wp2_with (at_builtin; refine wpList_app1_at rfl _ _ rfl w.heap.size _ (toI ((fixedN E).take k)) ((f : Nat) : Int) rfl (HO2.out.alloc _) ⟨_, 0, none⟩ 1 rfl (cell_new1 _ _ _) HTL.out (by simp; omega) ?_; intro v4 w4 ho4 hg4 hl4; have HO4 := Lib.hid ho4; have HG4 := Lib.hid hg4; clear ho4 hg4 hl4)
          go_roundw
          case rel => exact ⟨k + 1, hlt, by go_num, by rw [HT.out]; exact HO4.out, ((HB.out.trans (HBQ.out.mono hle)).alloc (by omega) _).grown HG4.out (by simp; omega) (fun j hj => (HO.out.lt j hj).1)⟩
          case measure => simp [intOf]; omega
    · obtain rfl : k = m := by omega
      have hki : ¬ (k : Int) < (k : Int) := by omega
      go_wp2
      go_ret
      have h0 := HO.out
      rw [List.take_of_length_le (by rw [HFL.out, HMM.out]; exact Nat.le_refl _)] at h0
      exact ⟨_, rfl, h0, HB.out⟩
theorem Fixed_no (h : Args w v L) (hq : genQ L = false) : Calls Try.prog 19 #[v] w fun e w' => e = .returned (.tuple #[.slice none 0 0, .int .i64 2]) ∧ Below w.heap.size w w' := by
  have RD := Lib.hid (read_no h hq)
  clear h hq
  go_enter Try.func19, Try.ntmps19
  go_wp2_with (go_at_call 21; refine RD.out.mono ?_; rintro e w1 ⟨rfl, hb⟩)
  go_ret2
  exact ⟨rfl, hb⟩
theorem Fixed_over (h : Args w v L) (hq : genQ L = true) (ho : Over (L.headD []).length (L.map natP)) : Calls Try.prog 19 #[v] w fun e w' => e = .returned (.tuple #[.slice none 0 0, .int .i64 6]) ∧ Below w.heap.size w w' := by
  have RD := Lib.hid (read_over h hq ho)
  clear h hq ho
  go_enter Try.func19, Try.ntmps19
  go_wp2_with (go_at_call 21; refine RD.out.mono ?_; rintro e w1 ⟨rfl, hb⟩)
  go_ret2
  exact ⟨rfl, hb⟩
theorem Fixed_yes (h : Args w v L) (hq : genQ L = true) (hg : IsG (L.headD []).length (L.map natP) E) : Calls Try.prog 19 #[v] w fun e w' => ∃ u, e = .returned (.tuple #[u, .int .i64 0]) ∧ OwnI 3 w.heap.size w' u (toI (fixedN E)) ∧ Below w.heap.size w w' := by
  have RD := Lib.hid (read_yes h hq hg)
  have hp := genQ_perm hq
  have HGR := hg.grp fun q hq => by obtain ⟨p, hp1, rfl⟩ := List.mem_map.1 hq; exact hp.2.2.2.2.1 p hp1
  have HF := Lib.hid (fun bg w' (hp' : PG _ E w' bg) => fixed_any bg w' HGR hp.2.2.2.1 hg.few hp')
  clear h hq hg hp HGR
  go_enter Try.func19, Try.ntmps19
  go_wp2_with (first
    | (go_at_call 21; refine RD.out.mono ?_; rintro e w1 ⟨bg, rfl, hp, hb⟩; have HP := Lib.hid (HF.out bg _ hp); have HB := Lib.hid hb; clear hp hb)
    | (go_at_call 30; refine HP.out.mono ?_; rintro e w2 ⟨u, rfl, ho, hb⟩; have HO := Lib.hid ho; have HB2 := Lib.hid hb; obtain ⟨a2, n2, c2, rfl⟩ := own_form ho; clear ho hb))
  go_ret2
  exact ⟨_, rfl, OwnI.mono HO.out HB.out.size, HB.out.trans (HB2.out.mono HB.out.size)⟩
end
end Go.Proofs.Ytdackakjcnnofaa
