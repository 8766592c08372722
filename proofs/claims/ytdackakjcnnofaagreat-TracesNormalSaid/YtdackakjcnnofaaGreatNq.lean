/- slices.SortFunc over rows by slices.Compare; the program's Normal. -/
import Derived.Test.YtdackakjcnnofaaGreatNp
import Derived.Test.YtdackakjcnnofaaGreatA13
namespace Go.Proofs.YtdackakjcnnofaaGreat
open Go.RowKit Go.Shelf Go.Lib Go.Sort
attribute [local go_sem] Oper.semAt_some

set_option maxHeartbeats 1000000 in
theorem sortS_any {B g cap n : Nat} {w : World} {L : List (List Int)} (h : OwnG 27 Vec B w (.slice (some ⟨g, 0, none⟩) n cap) L) (hnd : L.Nodup) (h0 : 0 < L.length) (hl : L.length ≤ 1000000) :
    Calls Tryz.prog 53 #[.slice (some ⟨g, 0, none⟩) n cap, .func (.func 54) #[] #[]] w fun e w' => e = .returned (.tuple #[]) ∧ OwnG 27 Vec B w' (.slice (some ⟨g, 0, none⟩) n cap) (sortV L) ∧ w.grownBy w' (some g) := by
  haveI : Inhabited (Fin L.length) := ⟨⟨0, h0⟩⟩
  have hty := (h.own rfl).2.2
  obtain rfl := h.lenN
  obtain ⟨vs, ho, hr⟩ := h
  have hvl : vs.length = L.length := by have := ho.1; omega
  rcases ho.2 with ⟨hv, _⟩ | ⟨g', cap', cur, hv, hB, hb, h1, h2, h3, h4⟩
  · cases hv
  obtain ⟨e1, _, rfl⟩ := Value.slice.inj hv
  obtain rfl : g = g' := by cases e1; rfl
  have hrow : ∀ i : Fin L.length, Vec w (vs[i.val]'(by rw [hvl]; exact i.isLt)) L[i.val] := fun i => hr i.val _ _ (List.getElem?_eq_getElem _) (List.getElem?_eq_getElem _)
  obtain ⟨enc, henc⟩ : ∃ enc : Fin L.length → Value, enc = fun i => vs[i.val]'(by rw [hvl]; exact i.isLt) := ⟨_, rfl⟩
  obtain ⟨cf, hcf⟩ : ∃ cf : Fin L.length → Fin L.length → Int, cf = fun i j => cmpL L[i.val] L[j.val] := ⟨_, rfl⟩
  have hrow2 : ∀ w' x, w.grownBy w' (some g) → Vec w' (enc x) L[x.val] := fun w' x hs => by
    rw [henc]
    exact Vec.keep ne_ri _ _ _ _ (KX.of_grown hs fun k hk => by cases hk; exact hty) (hrow x)
  have hone : OneCell enc := fun i => by rw [henc]; exact (hrow i).one
  have hlt : ∀ i j, ltOf cf i j = decide (L[i.val] < L[j.val]) := fun i j => by unfold ltOf; rw [hcf]; exact cmpL_lt _ _
  have hO : SWO (ltOf cf) := by
    refine ⟨fun x => by rw [hlt]; simp, fun x y z a b => ?_, fun x y z a b => ?_⟩
    · rw [hlt, decide_eq_true_eq] at a b ⊢
      exact List.lt_trans a b
    · rw [hlt, decide_eq_false_iff_not] at a b ⊢
      exact int_nlt a b
  have hT : ∀ x y, ltOf cf x y = false → ltOf cf y x = false → x = y := fun x y a b => by
    rw [hlt, decide_eq_false_iff_not] at a b
    exact Fin.ext ((List.getElem_inj hnd).1 (int_tot a b))
  have eg : ∀ args w, (callFunc 54 args).run Tryz.prog w = .ok (.enter 54 args) w := enters_of Tryz.func54 (by kernel_rfl) rfl
  have hsz : (List.finRange L.length).toArray.size = L.length := by simp
  have hH : Holds enc w g 0 (List.finRange L.length).toArray := by
    intro j hj
    have hjl : j < L.length := by simpa using hj
    refine ⟨?_, by simp [World.frozen?, hb]⟩
    rw [Nat.zero_add, World.ownsRow.cellAt ho j (by omega), List.getElem?_eq_getElem (by omega), getElem!_pos _ j hj]
    rw [henc]
    simp
  have hcmp : CmpLays1 Tryz.prog 54 #[] enc cf g 0 (List.finRange L.length).toArray.size w := by
    intro q os dk hdk x y
    have hs : w.grownBy (sortWorld enc w g 0 q dk os) (some g) := grown_sortA dk
    rw [hcf]
    exact (Compare_any (enc x) (enc y) _ _ (sortWorld enc w g 0 q dk os) (hrow2 _ x hs).ints (hrow2 _ y hs).ints).mono fun e w' ⟨he, hw⟩ => ⟨he, 0, #[], by rw [← hw]; simp [Go.Sort.grow, World.drewN]⟩
  have hS1 := Any.slices_SortFunc_total layS enc hone cf hO 54 #[] g 0 cap (List.finRange L.length).toArray w eg hcmp hH (Array.getElem?_eq_some_iff.1 hb).1 (by rw [hsz]; omega) hT
  change Calls Tryz.prog 53 _ _ _ at hS1
  rw [hsz] at hS1
  refine hS1.mono fun e w' hh => ?_
  obtain ⟨he, k, os, rfl⟩ := hh
  obtain ⟨ts, hts⟩ : ∃ ts, ((List.finRange L.length).mergeSort fun x y => !(ltOf cf) y x) = ts := ⟨_, rfl⟩
  have htp : ts.Perm (List.finRange L.length) := by rw [← hts]; exact List.mergeSort_perm _ _
  have htl : ts.length = L.length := by rw [htp.length_eq]; simp
  have hfin : (List.finRange L.length).map (fun i => L[i.val]) = L := by
    apply List.ext_getElem (by simp)
    intro i h1 h2
    simp
  have hmp : (ts.map fun i => L[i.val]).Perm L := by
    have := htp.map fun i => L[i.val]
    rw [hfin] at this
    exact this
  have hms : (ts.map fun i => L[i.val]).Pairwise (· < ·) := by
    have hpw : ts.Pairwise (fun x y => (!(ltOf cf) y x) = true) := by
      have := List.pairwise_mergeSort (le := fun x y => !(ltOf cf) y x) (fun a b c h1 h2 => by
        simp only [Bool.not_eq_true'] at h1 h2 ⊢
        exact hO.ntrans _ _ _ h2 h1) (fun a b => by
        simp only [hlt, Bool.or_eq_true, Bool.not_eq_true', decide_eq_false_iff_not]
        by_cases h : L[b.val] < L[a.val]
        · exact .inr fun h2 => List.lt_irrefl _ (List.lt_trans h h2)
        · exact .inl h) (List.finRange L.length)
      rw [hts] at this
      exact this
    rw [List.pairwise_map]
    have hnt : ts.Nodup := htp.nodup_iff.2 (List.nodup_finRange _)
    refine (hpw.and hnt).imp fun {a b} hh => ?_
    have h1 : ¬ L[b.val] < L[a.val] := by
      have := hh.1
      rw [hlt, Bool.not_eq_true', decide_eq_false_iff_not] at this
      exact this
    by_cases h2 : L[a.val] < L[b.val]
    · exact h2
    · exact absurd (Fin.ext ((List.getElem_inj hnd).1 (int_tot h2 h1))) hh.2
  have htm : (ts.map fun i => L[i.val]) = sortV L := sorted_sameV (hmp.trans (sortV_perm hnd).symm) hms (sortV_sorted hnd)
  rw [List.toList_toArray, hts]
  have hsl : (sortV L).length = L.length := (sortV_perm hnd).length_eq
  refine ⟨he, ⟨ts.map enc, ⟨by simp [htl, hsl], .inr ⟨g, cap, _, by rw [hsl], hB, heap_sortA _ hb, by rw [hsl]; exact h1, h2, by simp [putCells, h3], ?_⟩⟩, ?_⟩, grown_sortA _⟩
  · have := take_sortA (enc := enc) cur ts (by rw [h3]; omega)
    rw [← this, hsl, htl]
    simp
  · intro i u l hu hl'
    rw [← htm] at hl'
    rw [List.getElem?_map] at hu hl'
    cases hti : ts[i]? with
    | none => rw [hti] at hu; cases hu
    | some x =>
      rw [hti] at hu hl'
      obtain rfl := Option.some.inj hu
      obtain rfl := Option.some.inj hl'
      exact hrow2 _ x (grown_sortA _)

theorem toI_ltQ : ∀ (a b : List Nat), toI a < toI b ↔ a < b
  | [], [] => by simp [toI]
  | [], _ :: _ => by simp [toI]
  | _ :: _, [] => by simp [toI]
  | x :: xs, y :: ys => by
    have ih := toI_ltQ xs ys
    simp only [toI, List.map_cons, List.cons_lt_cons_iff] at ih ⊢
    have h1 : ((x : Int) < (y : Int)) ↔ x < y := by omega
    have h2 : ((x : Int) = (y : Int)) ↔ x = y := by omega
    rw [h1, h2, ih]
theorem toI_nodup {l : List (List Nat)} (hn : l.Nodup) : (l.map toI).Nodup := by
  have hinj : ∀ a b : List Nat, toI a = toI b → a = b := fun a b h => by
    have : (toI a).map Int.toNat = (toI b).map Int.toNat := by rw [h]
    simpa [toI, List.map_map, Function.comp_def] using this
  rw [List.nodup_iff_pairwise_ne, List.pairwise_map]
  rw [List.nodup_iff_pairwise_ne] at hn
  exact hn.imp fun {a b} h e => h (hinj a b e)
theorem Grp.norm_pos {d : Nat} {E : List (List Nat)} (h : Grp d E) {m : Nat} (hm : (repsN E E.length).length = m) (hm0 : 0 < m) : 0 < (normL E m).length := by
  have e2 : 2 ^ m = 2 * 2 ^ (m - 1) := by
    obtain ⟨k, rfl⟩ : ∃ k, m = k + 1 := ⟨m - 1, by omega⟩
    rw [Nat.pow_succ, Nat.add_sub_cancel]; omega
  have hp : 0 < 2 ^ (m - 1) := Nat.pow_pos (by omega)
  unfold normL normTo
  rw [List.length_map]
  refine List.length_pos_of_mem (a := 2 ^ m - 1) (List.mem_filter.2 ⟨List.mem_map.2 ⟨2 ^ (m - 1) - 1, List.mem_range.2 (by omega), by omega⟩, ?_⟩)
  unfold closB closTo closA closR bitC
  simp only [List.all_eq_true, List.mem_range]
  intro a ha b hb
  have h3 := h.cls_lt (h.timesN_lt ha hb)
  have : (2 ^ m - 1).testBit (clsOf E (timesN E a b)) = true := by rw [Nat.testBit_two_pow_sub_one]; simp; omega
  rw [this, Bool.or_true]
theorem sortV_toI {l : List (List Nat)} (hn : l.Nodup) : sortV (l.map toI) = (sortP l).map toI := by
  have hnm := toI_nodup hn
  refine sorted_sameV ((sortV_perm hnm).trans ((sortP_perm hn).symm.map toI)) (sortV_sorted hnm) ?_
  rw [List.pairwise_map]
  exact (sortP_sorted hn).imp fun {a b} h => (toI_ltQ a b).2 h
theorem pow_in64' : ∀ j : Nat, j < 8 → wrap64 ((2 : Int) ^ j) = ((2 ^ j : Nat) : Int) := by decide +kernel
theorem pow_in' : ∀ j : Nat, j < 8 → IntKind.i64.wrap ((2 : Int) ^ j) = ((2 ^ j : Nat) : Int) := by decide +kernel
theorem pow_nat : ∀ j : Nat, j < 8 → ((2 : Int) ^ j) = ((2 ^ j : Nat) : Int) := by decide +kernel
theorem pow_half : ∀ j : Nat, j < 7 → 0 < j → 2 ^ j = 2 * 2 ^ (j - 1) ∧ 2 ^ j ≤ 64 := by decide +kernel
section
variable {v : Value} {L : List (List Int)} {w : World} {E : List (List Nat)}
theorem Normal_no (h : Args w v L) (hq : genQ L = false) : Calls Tryz.prog 22 #[v] w fun e w' => e = .returned (.tuple #[.slice none 0 0, .int .i64 2]) ∧ Below w.heap.size w w' := by
  have RD := Lib.hid (read_no h hq)
  clear h hq
  go_enter Tryz.func22, Tryz.ntmps22
  go_wp2_with (go_at_call 43; refine RD.out.mono ?_; rintro e w1 ⟨rfl, hb⟩; have HB := Lib.hid hb; clear hb)
  go_ret2
  exact ⟨rfl, HB.out⟩
theorem Normal_over (h : Args w v L) (hq : genQ L = true) (ho : Over (L.headD []).length (L.map natP)) : Calls Tryz.prog 22 #[v] w fun e w' => e = .returned (.tuple #[.slice none 0 0, .int .i64 6]) ∧ Below w.heap.size w w' := by
  have RD := Lib.hid (read_over h hq ho)
  clear h hq ho
  go_enter Tryz.func22, Tryz.ntmps22
  go_wp2_with (go_at_call 43; refine RD.out.mono ?_; rintro e w1 ⟨rfl, hb⟩; have HB := Lib.hid hb; clear hb)
  go_ret2
  exact ⟨rfl, HB.out⟩
set_option maxRecDepth 20000 in
set_option maxHeartbeats 4000000 in
theorem Normal_yes (h : Args w v L) (hq : genQ L = true) (hg : IsG (L.headD []).length (L.map natP) E) (hm6 : (repsN E E.length).length ≤ 6) :
    Calls Tryz.prog 22 #[v] w fun e w' => ∃ u, e = .returned (.tuple #[u, .int .i64 0]) ∧ OwnG 27 Vec w.heap.size w' u ((normN E (repsN E E.length).length).map toI) ∧ Below w.heap.size w w' := by
  have RD := Lib.hid (read_yes h hq hg)
  have hp := genQ_perm hq
  have hgr := hg.grp fun q hq => by obtain ⟨p, hp1, rfl⟩ := List.mem_map.1 hq; exact hp.2.2.2.2.1 p hp1
  have HGR := Lib.hid hgr
  have hd5 := hp.2.2.2.1
  have h24 := hg.few
  obtain ⟨d, hd⟩ : ∃ d, (L.headD []).length = d := ⟨_, rfl⟩
  rw [hd] at RD HGR hd5
  have HCL := Lib.hid (show (classesN E).length = (repsN E E.length).length by simp [classesN])
  have HRP := Lib.hid (show 0 < (repsN E E.length).length by
    have h0 := HGR.out.cls_lt HGR.out.pos
    omega)
  have CLO := Lib.hid (fun (bg set : Nat) (W : World) (hpg : PG d E W bg) (hs : set < 64) => closed_any bg set W HGR.out hd5 h24 hpg hm6 hs)
  obtain ⟨m, hm⟩ : ∃ m, (repsN E E.length).length = m := ⟨_, rfl⟩
  rw [hm] at HCL HRP hm6 ⊢
  have hm0 := HRP.out
  have hpw := pow_half m (by omega) hm0
  have q1 := pow_in64' m (by omega)
  have q2 := pow_in' m (by omega)
  have q3 := pow_nat m (by omega)
  have HND := Lib.hid (normTo_nodup E hm0)
  have HNP := Lib.hid (HGR.out.norm_pos hm hm0)
  have HNL := Lib.hid (show normL E m = normTo E m (2 ^ (m - 1)) from rfl)
  have HNN := Lib.hid (show normN E m = sortP (normL E m) from rfl)
  obtain ⟨N, hN⟩ : ∃ N, 2 ^ (m - 1) = N := ⟨_, rfl⟩
  obtain ⟨M, hM⟩ : ∃ M, 2 ^ m = M := ⟨_, rfl⟩
  rw [hN, hM] at hpw
  rw [hN] at HNL
  rw [hM] at q1 q2 q3
  clear h hq hg hp hgr hd hm hN hM
  go_enter Tryz.func22, Tryz.ntmps22
  go_wp2_with (go_at_call 43; refine RD.out.mono ?_; rintro e w1 ⟨bg, rfl, hpg, hb⟩; have HB := Lib.hid hb; have HPG := Lib.hid hpg; clear hb)
  have hgd := hpg.gd
  obtain ⟨S, H, vC, hc3, hrC⟩ := hgd.c
  obtain ⟨aC, cC, rfl⟩ := hrC.form
  rw [HCL.out] at hc3
  have hbgl := hgd.p.1
  have HC3 := Lib.hid (fun (W : World) (hb : Below w1.heap.size w1 W) => (hb.cell (p := ⟨bg, 3, none⟩) hbgl).trans hc3)
  clear hpg hgd hrC hc3
  go_loopw [6, 7] (fun vo sx wr => ∃ i : Nat, i ≤ N ∧ sx = .int .i64 (2 * i + 1 : Nat) ∧ OwnG 27 Vec w1.heap.size wr vo ((normTo E m i).map toI) ∧ Below w1.heap.size w1 wr) (fun _ sx _ => M + 1 - (intOf sx).toNat)
  case atStart => exact ⟨0, Nat.zero_le _, rfl, OwnG.nil _ _ _ _, Below.refl _ _⟩
  case round =>
    obtain ⟨i, hi, rfl, ho, hb⟩ := hrel
    obtain ⟨wA, rfl⟩ : ∃ x, x = wr := ⟨_, rfl⟩
    have HO := Lib.hid ho
    have HB1 := Lib.hid hb
    have hc3 := HC3.out wA hb
    obtain ⟨a6, c6, rfl⟩ := ho.form
    have HTL := Lib.hid (normTo_len E m i)
    obtain ⟨n6, hn6⟩ : ∃ x, ((normTo E m i).map toI).length = x := ⟨_, rfl⟩
    have HL6 := Lib.hid hn6
    have hn6' : n6 ≤ i := by rw [← hn6, List.length_map]; exact HTL.out
    rw [hn6] at HO ⊢
    have hle1 := hb.size
    clear ho hb hn6
    by_cases hlt : i < N
    · obtain ⟨set, hset⟩ : ∃ s, 2 * i + 1 = s := ⟨_, rfl⟩
      have hsM : (set : Int) < (M : Int) := by omega
      have hs64 : set < 64 := by omega
      have HNX := Lib.hid (normTo_succ E m i)
      have CL1 := Lib.hid (CLO.out bg set wA (HPG.out.below HB1.out) hs64)
      rw [hset] at HNX ⊢
      have HSE := Lib.hid hset
      clear hset
      cases hcb : closB E set with
      | false =>
        rw [hcb] at CL1 HNX
        have HNX2 := Lib.hid (show normTo E m (i + 1) = normTo E m i by rw [HNX.out]; simp)
        clear hcb HNX
        go_wp2_with (go_at_call 52; refine CL1.out.mono ?_; rintro e w2 ⟨rfl, hb⟩; have HB2 := Lib.hid hb; clear hb)
        go_roundw
        case rel => exact ⟨i + 1, hlt, by have := HSE.out; go_num, by rw [HNX2.out]; exact HO.out.below HB2.out vec_keep0, HB1.out.trans (HB2.out.mono hle1)⟩
        case measure => have := HSE.out; simp [intOf]; omega
      | true =>
        rw [hcb] at CL1 HNX
        have HNX2 := Lib.hid (show (normTo E m (i + 1)).map toI = (normTo E m i).map toI ++ [toI (setN m set)] by rw [HNX.out, if_pos rfl, List.map_append]; rfl)
        have hbits := fun c (hc : c < m) => div_bit6 c (by omega) set hs64
        have HBITS := Lib.hid hbits
        clear hcb HNX hbits
        go_upto_region 10 with (go_at_call 52; refine CL1.out.mono ?_; rintro e w2 ⟨rfl, hb⟩; have HB2 := Lib.hid hb; clear hb)
        have hc3 := HC3.out w2 (HB1.out.trans (HB2.out.mono hle1))
        go_wp2
        go_loopw [8, 36] (fun vl jx wq => ∃ c : Nat, c ≤ m ∧ jx = .int .i64 c ∧ OwnI 3 w2.heap.size wq vl (toI (setN c set)) ∧ Below w2.heap.size w2 wq) (fun _ jx _ => m - (intOf jx).toNat)
        case atStart => exact ⟨0, Nat.zero_le _, rfl, OwnI.nil _ _ _, Below.refl _ _⟩
        case round =>
          obtain ⟨c, hc, rfl, ho, hb⟩ := hrel
          have HOI := Lib.hid ho
          have HB3 := Lib.hid hb
          have hle3 := hb.size
          obtain ⟨a8, n8, c8, rfl⟩ := own_form ho
          clear ho hb hc3
          by_cases hcl : c < m
          · have hci : (c : Int) < (m : Int) := by omega
            have hbt := HBITS.out c hcl
            have HSS := Lib.hid (setN_succ c set)
            have HSL := Lib.hid (show (toI (setN c set)).length < 1000000 by rw [toI_length]; have := setN_len c set; omega)
            cases hx : set.testBit c with
            | false =>
              rw [hx] at HSS
              rw [hx, if_neg (by simp)] at hbt
              have HSS2 := Lib.hid (show setN (c + 1) set = setN c set by rw [HSS.out]; simp)
              clear hx HSS
              go_wp2
              go_roundw
              case rel => exact ⟨c + 1, hcl, by go_num, by rw [HSS2.out]; exact HOI.out, HB3.out⟩
              case measure => simp [intOf]; omega
            | true =>
              rw [hx] at HSS
              rw [hx, if_pos rfl] at hbt
              have HSS2 := Lib.hid (show toI (setN (c + 1) set) = toI (setN c set) ++ [(c : Int)] by rw [HSS.out, if_pos rfl, toI_append]; rfl)
              clear hx HSS
              go_wp2_with (at_builtin; refine wpList_app1_at rfl _ _ rfl w2.heap.size _ (toI (setN c set)) (c : Int) rfl (HOI.out.alloc _) ⟨_, 0, none⟩ 1 rfl (cell_new1 _ _ _) HSL.out (by simp; omega) ?_; intro v4 w4 ho4 hg4 hl4; have HO4 := Lib.hid ho4; have HB4 := Lib.hid ((HB3.out.alloc hle3 _).grown hg4 (by simp; omega) (fun j hj => (HOI.out.lt j hj).1)); clear ho4 hg4 hl4)
              go_roundw
              case rel => exact ⟨c + 1, hcl, by go_num, by rw [HSS2.out]; exact HO4.out, HB4.out⟩
              case measure => simp [intOf]; omega
          · obtain rfl : m = c := by omega
            have hci : ¬ (m : Int) < (m : Int) := by omega
            have HV := Lib.hid (HOI.out.vec (by rw [toI_length]; have := setN_len m set; omega))
            have HOB := Lib.hid ((HO.out.below HB2.out vec_keep0).below HB3.out vec_keep0)
            have HB13 := Lib.hid ((HB1.out.trans (HB2.out.mono hle1)).trans (HB3.out.mono (Nat.le_trans hle1 HB2.out.size)))
            have hle13 := HB13.out.size
            have HLT := Lib.hid (show ((normTo E m i).map toI).length + 1 < 1000000 by rw [HL6.out]; omega)
            go_wp2_with (at_builtin; refine wpl_appG (t := 27) (R := Vec) (B := w1.heap.size) rfl _ _ 22 rfl Tryz.underlying22 infoR (Vec.keep ne_ri) (fun _ _ _ h => h.one) rfl (HOB.out.below ((Below.refl _ _).alloc (Nat.le_refl _) _) vec_keep0) rfl (Held.new _ _ [_]) (HV.out.below ((Below.refl _ _).alloc (Nat.le_refl _) _)) HLT.out (by simp; omega) ?_; intro v7 w7 ho7 hg7 hl7; have HO7 := Lib.hid ho7; have HB7 := Lib.hid ((HB13.out.alloc hle13 (.cells #[.slice a8 n8 c8] 27)).grown hg7 (by simp; omega) (fun k hk => (HOB.out.own hk).1)); clear ho7 hg7 hl7)
            go_roundw
            case rel => exact ⟨i + 1, hlt, by have := HSE.out; go_num, by rw [HNX2.out]; exact HO7.out, HB7.out⟩
            case measure => have := HSE.out; simp [intOf]; omega
    · obtain rfl : N = i := by omega
      have hsM : ¬ ((2 * N + 1 : Nat) : Int) < (M : Int) := by omega
      obtain ⟨set, hset⟩ : ∃ s, 2 * N + 1 = s := ⟨_, rfl⟩
      rw [hset] at hsM ⊢
      clear hset
      have hpos : 0 < ((normTo E m N).map toI).length := by rw [List.length_map, ← HNL.out]; exact HNP.out
      have HO2 := HO.out
      obtain ⟨g6, cp, u0, he, hg6, -⟩ := HO2.at 0 hpos
      obtain ⟨rfl, rfl, rfl⟩ := Value.slice.inj he
      have SRT := Lib.hid (sortS_any HO2 (toI_nodup (by rw [← HNL.out]; exact HND.out)) hpos (by omega))
      have HSE := Lib.hid (show sortV ((normTo E m N).map toI) = (normN E m).map toI by rw [sortV_toI (by rw [← HNL.out]; exact HND.out), HNN.out, HNL.out])
      clear he hpos HO2
      rw [HSE.out] at SRT
      obtain ⟨n7, hn7⟩ : ∃ x, ((normTo E m N).map toI).length = x := ⟨_, rfl⟩
      rw [hn7] at SRT ⊢
      clear hn7
      go_wp2_with (go_at_call 53; refine SRT.out.mono ?_; rintro e w8 ⟨rfl, ho8, hg8⟩; have HO8 := Lib.hid ho8; have HB8 := Lib.hid (HB1.out.grown hg8 HB1.out.size (fun k hk => by cases hk; exact hg6)); clear ho8 hg8)
      go_ret2
      exact ⟨_, rfl, HO8.out.mono HB.out.size, HB.out.trans (HB8.out.mono HB.out.size)⟩
end
end Go.Proofs.YtdackakjcnnofaaGreat
