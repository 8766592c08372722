/- TracesKernels answers true. -/
import Derived.Test.YtdackakjcnnofaaGreatZj
import Derived.Test.YtdackakjcnnofaaGreatNq
import Derived.Test.YtdackakjcnnofaaGreatFg
import Derived.Test.YtdackakjcnnofaaGreatZt
namespace Go.Proofs.YtdackakjcnnofaaGreat
open Go.RowKit

theorem RowsF.toArgsK {S : Nat → Prop} {B : Nat} {w : World} {v : Value} {ls : List (List Nat)} (h : RowsF S B w v ls) (hl : ls.length ≤ 1000000) : Args w v (ls.map toI) := by
  by_cases hne : ls = []
  · subst hne
    obtain ⟨vs, ho, -⟩ := h
    rcases ho.2 with ⟨rfl, -⟩ | ⟨g, cap, cur, rfl, -, hb, -⟩
    · exact ⟨none, 0, rfl, by simp, by simp, fun h => absurd rfl h⟩
    · exact ⟨_, cap, rfl, by simp, by simp, fun h => absurd rfl h⟩
  · have h0 : 0 < ls.length := List.length_pos_iff.2 hne
    obtain ⟨vs, ho, hr⟩ := id h
    have hvl : vs.length = ls.length := by have := ho.1; omega
    rcases ho.2 with ⟨_, hn⟩ | ⟨g, cap, cur, rfl, hB, hb, hc, -⟩
    · omega
    · refine ⟨some ⟨g, 0, none⟩, cap, by rw [List.length_map], by rw [List.length_map]; omega, by rw [List.length_map]; exact hc, fun _ => ⟨g, 0, rfl, (Array.getElem?_eq_some_iff.1 hb).1, fun i hi => ?_⟩⟩
      rw [List.length_map] at hi
      have hvi : vs[i]? = some (vs[i]'(by omega)) := List.getElem?_eq_getElem (by omega)
      refine ⟨vs[i]'(by omega), by rw [Nat.zero_add, World.ownsRow.cellAt ho i (by omega), hvi], ?_⟩
      rw [List.getElem_map]
      exact (hr i _ _ hvi (List.getElem?_eq_getElem hi)).ints
theorem sortP_lenK {l : List (List Nat)} (hn : l.Nodup) : (sortP l).length = l.length := (sortP_perm hn).length_eq
theorem cB_toI (l : List Nat) (k : Nat) : cB (toI l) (k : Int) = l.contains k := by
  unfold cB toI
  rw [List.any_map, List.contains_eq_any_beq]
  congr 1
  funext z
  show ((k : Int) == (z : Int)) = (k == z)
  rw [Bool.eq_iff_iff, beq_iff_eq, beq_iff_eq]; omega
theorem wiB_toI (x r : List Nat) (j : Nat) : wiB (toI x) (toI r) j = (r.take j).all fun y => x.contains y := by
  unfold wiB
  have e : (toI r).take j = toI (r.take j) := by unfold toI; rw [List.map_take]
  rw [e]
  unfold toI
  rw [List.all_map]
  congr 1
  funext z
  exact cB_toI x z
theorem alB_toI (K : List (List Nat)) (r : List Nat) (k i : Nat) : alB (K.map toI) (toI r) (k : Int) i = (K.take i).all fun x => !(r.all fun y => x.contains y) || x.contains k := by
  unfold alB
  rw [← List.map_take, List.all_map]
  congr 1
  funext x
  show (!(wiB (toI x) (toI r) (toI r).length) || cB (toI x) (k : Int)) = _
  rw [wiB_toI, cB_toI, toI_length, List.take_length]
theorem kef_nat {r : List Int} (h : ∀ x ∈ r, 0 ≤ x) : kefL r = kerN (r.map Int.toNat) := by
  unfold kefL kefTo kerN
  rw [List.length_map]
  refine List.filter_congr fun c hc => ?_
  have g : ∀ i, r.getD i 0 = (((r.map Int.toNat).getD i 0 : Nat) : Int) := fun i => by
    rw [List.getD_eq_getElem?_getD, List.getD_eq_getElem?_getD, List.getElem?_map]
    cases hx : r[i]? with
    | none => rfl
    | some y =>
      have := h y (List.mem_of_getElem? hx)
      simp; omega
  rw [g c, g 0, Bool.eq_iff_iff, beq_iff_eq, beq_iff_eq]; omega
theorem sizI_toI (C : List (List Nat)) (r : List Nat) : sizI (C.map toI) (toI r) (toI r).length = ((sizK (C.map List.length) r : Nat) : Int) := by
  unfold sizI sizK
  rw [List.take_length]
  unfold toI
  rw [List.map_map]
  have : ∀ l : List Nat, (l.map ((fun y : Int => ((((C.map fun l => l.map fun x : Nat => (x : Int)).getD y.toNat []).length : Nat) : Int)) ∘ fun x : Nat => (x : Int))).sum = ((((l.map fun c => (C.map List.length).getD c 0).sum : Nat)) : Int) := fun l => by
    induction l with
    | nil => rfl
    | cons a l ih =>
      rw [List.map_cons, List.map_cons, List.sum_cons, List.sum_cons, ih]
      have e : (((C.map fun l => l.map fun x : Nat => (x : Int)).getD (a : Int).toNat []).length) = (C.map List.length).getD a 0 := by
        rw [Int.toNat_natCast, List.getD_eq_getElem?_getD, List.getD_eq_getElem?_getD, List.getElem?_map, List.getElem?_map]
        cases C[a]? <;> simp
      show (((((C.map fun l => l.map fun x : Nat => (x : Int)).getD (a : Int).toNat []).length : Nat) : Int)) + _ = _
      rw [e]; push_cast; rfl
  exact this r
theorem Grp.kerF {E : List (List Nat)} {d : Nat} (h : Grp d E) (h1 : 0 < d) (hd : d ≤ 5) (h24 : E.length ≤ 24) :
    KerF E.length (repsN E E.length).length (tabG E d) ((normN E (repsN E E.length).length).map toI) ((tabG E d).map fun r => toI (kefL r)) ((classesN E).map toI) := by
  have hfg := h.fgN h1 hd h24
  have hm6 := h.m6 h1 hd h24
  obtain ⟨x, hx, hok, ht, e1, e2, e3, e4, e5⟩ := h.tab h1 hd h24
  have hs := shp_all x hx
  have hk := ker_all x hx
  have hcl : (classesN E).length = (repsN E E.length).length := by simp [classesN]
  have hsl : x.1.2.2.1.length = (repsN E E.length).length := by rw [← e3, szE_length]
  have hsz : szE E = (classesN E).map List.length := rfl
  have hm0 : 0 < (repsN E E.length).length := by have := hfg.m0; omega
  have hnd := normTo_nodup E hm0
  have hpw := pow_half (repsN E E.length).length (by omega) hm0
  unfold shpOk at hs
  simp only [Bool.and_eq_true, beq_iff_eq, decide_eq_true_eq, List.all_eq_true] at hs
  have hT6 : x.2.length ≤ 6 := by omega
  have hpos : ∀ r ∈ tabG E d, ∀ y ∈ r, 0 ≤ y := fun r hr y hy => ((funB_iff.1 (hfg.rows r hr)).2 y hy).1
  have hrl : ∀ r ∈ tabG E d, r.length = (repsN E E.length).length := fun r hr => by rw [(funB_iff.1 (hfg.rows r hr)).1, hcl]
  have hmem : ∀ r, r ∈ normN E (repsN E E.length).length ↔ r ∈ nrmK x.1.2.2.2.2 (repsN E E.length).length := fun r => by
    unfold normN
    rw [(sortP_perm hnd).mem_iff]
    unfold normL normTo nrmK
    have : (fun s => closB E s) = closK x.1.2.2.2.2 (repsN E E.length).length := by
      funext s
      rw [← h.clos_eq s]
      unfold closC closK
      rw [← e5]
      rw [Bool.eq_iff_iff]
      simp only [List.all_eq_true, List.mem_range]
      constructor
      · intro hh c hc k hk e he
        rw [ksE_at hc]; exact hh c hc k hk e he
      · intro hh c hc k hk e he
        have := hh c hc k hk e he
        rw [ksE_at hc] at this; exact this
    have e6 : closB E = closK x.1.2.2.2.2 (repsN E E.length).length := this
    rw [e6]
    exact Iff.rfl
  have hK : (tabG E d).map (fun r => kefL r) = (natT x.2).map kerN := by
    rw [ht]
    unfold natT
    rw [List.map_map]
    refine List.map_congr_left fun r hr => ?_
    rw [kef_nat (hpos r (by rw [ht]; exact hr))]; rfl
  have hKL : ((tabG E d).map fun r => toI (kefL r)) = ((natT x.2).map kerN).map toI := by rw [← hK, List.map_map]; rfl
  unfold kerOk at hk
  simp only [Bool.and_eq_true, List.all_eq_true, decide_eq_true_eq, beq_iff_eq, List.mem_range] at hk
  rw [hsl] at hk
  have hkl24 : ∀ r ∈ tabG E d, (kefL r).length ≤ 24 := fun r hr => by
    have := kefTo_len r r.length
    have := hrl r hr
    unfold kefL; omega
  have hnorm : ∀ r ∈ normN E (repsN E E.length).length, ∃ s, r = setN (repsN E E.length).length (2 * s + 1) := fun r hr => by
    unfold normN at hr
    rw [(sortP_perm hnd).mem_iff] at hr
    unfold normL normTo at hr
    obtain ⟨s, hs, rfl⟩ := List.mem_map.1 hr
    obtain ⟨s2, _, rfl⟩ := List.mem_map.1 (List.mem_filter.1 hs).1
    exact ⟨s2, rfl⟩
  refine ⟨by rw [List.length_map, hcl], hm0, by omega, h24, by rw [ht]; omega, ?_, fun r hr => by rw [hrl r hr]; omega, by rw [List.length_map], ?_, ?_, ?_, ?_, ?_, ?_, ?_, ?_⟩
  · rw [ht]; omega
  · rw [List.length_map]
    unfold normN
    rw [sortP_lenK hnd]
    have := normTo_len E (repsN E E.length).length (2 ^ ((repsN E E.length).length - 1))
    unfold normL
    omega
  · rw [List.length_map]
    unfold normN
    rw [sortP_lenK hnd]
    exact h.norm_pos rfl hm0
  · intro r hr
    obtain ⟨l, hl, rfl⟩ := List.mem_map.1 hr
    obtain ⟨s, rfl⟩ := hnorm l hl
    have hmem0 : 0 ∈ setN (repsN E E.length).length (2 * s + 1) := setN_mem.2 ⟨hm0, by simp [Nat.testBit_zero]⟩
    refine ⟨by rw [toI_length]; have := setN_len (repsN E E.length).length (2 * s + 1); omega, by rw [toI_length]; exact List.length_pos_of_mem hmem0, fun y hy => ?_⟩
    obtain ⟨z, hz, rfl⟩ := List.mem_map.1 hy
    have := (setN_mem.1 hz).1
    exact ⟨by omega, by omega⟩
  · intro c hc
    obtain ⟨l, hl, rfl⟩ := List.mem_map.1 hc
    rw [toI_length]
    have := (classes_len hl).1; omega
  · intro r hr
    obtain ⟨l, hl, rfl⟩ := List.mem_map.1 hr
    have h2 := (hk.2 l ((hmem l).1 hl)).1
    rw [sizI_toI, ← hsz, e3, e2]
    refine ⟨by omega, ?_⟩
    rw [← Int.ofNat_tmod, h2.2]; rfl
  · intro k hk2
    simp only [List.getElem_map]
    rw [List.length_map] at hk2
    refine List.mem_map.2 ⟨_, ?_, rfl⟩
    rw [hmem]
    have h2 := hk.1 (kefL (tabG E d)[k]) (by rw [← hK]; exact List.mem_map.2 ⟨_, List.getElem_mem hk2, rfl⟩)
    exact List.contains_iff_mem.1 h2
  · intro l hl
    obtain ⟨r, hr, rfl⟩ := List.mem_map.1 hl
    rw [toI_length]; exact hkl24 r hr
  · intro r hr k hk2
    obtain ⟨l, hl, rfl⟩ := List.mem_map.1 hr
    have h2 := (hk.2 l ((hmem l).1 hl)).2 k hk2
    rw [hKL, alB_toI, cB_toI, List.length_map, List.take_length]
    rw [← h2]
theorem tracesKernels_true (v : Value) (L : List (List Int)) (w : World) (h : Args w v L) : Calls Tryz.prog 10 #[v] w fun e w' => e = .returned (.bool true) ∧ Below w.heap.size w w' := by
  rcases three L with hq | ⟨hq, ho⟩ | ⟨hq, E, hg⟩
  · refine kern_err v L w h 2 (.inl rfl) (fun u w' ha => ?_) (fun u w' ha => ?_) (fun u w' ha => ?_) (fun u w' ha => ?_)
    · exact (Table_no ha (by rw [genQ_tabA]; exact hq)).mono fun e w2 ⟨he, hb⟩ => ⟨_, _, _, he, hb⟩
    · exact (Normal_no ha (by rw [genQ_tabA]; exact hq)).mono fun e w2 ⟨he, hb⟩ => ⟨_, _, _, he, hb⟩
    · exact (PElements_no ha (by rw [genQ_tabA]; exact hq)).mono fun e w2 ⟨he, hb⟩ => ⟨_, _, _, he, hb⟩
    · exact (Classes_no ha (by rw [genQ_tabA]; exact hq)).mono fun e w2 ⟨he, hb⟩ => ⟨_, _, _, he, hb⟩
  · have ht := tabA_eq (.inl hq)
    refine kern_err v L w h 6 (.inr rfl) (fun u w' ha => ?_) (fun u w' ha => ?_) (fun u w' ha => ?_) (fun u w' ha => ?_)
    · rw [ht] at ha
      exact (Table_over ha hq ho).mono fun e w2 ⟨he, hb⟩ => ⟨_, _, _, he, hb⟩
    · rw [ht] at ha
      exact (Normal_over ha hq ho).mono fun e w2 ⟨he, hb⟩ => ⟨_, _, _, he, hb⟩
    · rw [ht] at ha
      exact (PElements_over ha hq ho).mono fun e w2 ⟨he, hb⟩ => ⟨_, _, _, he, hb⟩
    · rw [ht] at ha
      exact (Classes_over ha hq ho).mono fun e w2 ⟨he, hb⟩ => ⟨_, _, _, he, hb⟩
  · have ht := tabA_eq (.inl hq)
    have hp := genQ_perm hq
    have hgr := hg.grp fun q hq => by obtain ⟨p, hp1, rfl⟩ := List.mem_map.1 hq; exact hp.2.2.2.2.1 p hp1
    have h24 := hg.few
    have hF := hgr.kerF hp.2.2.1 hp.2.2.2.1 h24
    have hfg := hgr.fgN hp.2.2.1 hp.2.2.2.1 h24
    have hm6 := hgr.m6 hp.2.2.1 hp.2.2.2.1 h24
    refine kern_ok v L w h hF (fun u w' ha => ?_) (fun u w' ha => ?_) (fun u w' ha => ?_) (fun u w' ha => ?_) (fun k hk hk2 u x w' hu hx => ?_)
    · rw [ht] at ha
      exact (Table_yes ha hq hg hfg.tab).mono fun e w2 ⟨u, he, ho, hb⟩ => ⟨u, he, rows_args (ho.slr (by have := hfg.few; omega)), hb⟩
    · rw [ht] at ha
      exact (Normal_yes ha hq hg hm6).mono fun e w2 ⟨u, he, ho, hb⟩ => ⟨u, he, rows_args (ho.slr (by have := hF.nl; omega)), hb⟩
    · rw [ht] at ha
      exact (Classes_yes ha hq hg).mono fun e w2 ⟨u, S, H, he, hr, hb⟩ => ⟨u, he, RowsF.toArgsK hr (by have := hfg.m24; omega), hb⟩
    · rw [ht] at ha
      refine (PElements_yes ha hq hg).mono fun e w2 ⟨x, S, he, hr, hb⟩ => ?_
      obtain ⟨a, c, rfl⟩ := hr.1.form
      exact ⟨a, c, he, hb⟩
    · rw [ht] at hu
      have hkT := List.getElem_mem hk
      refine (Kernel_yes hu hq hg hfg hx hkT).mono fun e w2 ⟨s, he, ho, hb⟩ => ⟨s, he, ?_, hb⟩
      simp only [List.getElem_map]
      exact ho
end Go.Proofs.YtdackakjcnnofaaGreat
