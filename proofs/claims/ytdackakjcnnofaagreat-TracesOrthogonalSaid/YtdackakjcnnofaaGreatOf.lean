/- TracesOrthogonal answers true. -/
import Derived.Test.YtdackakjcnnofaaGreatOe
namespace Go.Proofs.YtdackakjcnnofaaGreat
open Go.RowKit

/-- What the law asks of a table, of the class data. -/
def orOk (x : DataT) : Bool :=
  let q := x.1.1; let n := x.1.2.1; let sz := x.1.2.2.1; let bk := x.1.2.2.2.1; let T := x.2
  (List.range 7).all (fun k => decide (0 ≤ sqTo T k) && decide (sqTo T k ≤ 1000000)) && sqTo T T.length == (n : Int) &&
  T.all (fun r => decide (1 ≤ r.headD 0) && decide (r.headD 0 < 62) && (n : Int).tmod (r.headD 0) == 0) &&
  (List.range sz.length).all fun a => (List.range sz.length).all fun b => (clTo T a (bk.getD b 0) T.length - (if a = b then ((n / sz.getD a 0 : Nat) : Int) else 0)).tmod (q : Int) == 0 && (List.range 7).all fun k => decide (0 ≤ clTo T a b k) && decide (clTo T a b k ≤ 1000000)
theorem or_all : ∀ x ∈ dataT, orOk x = true := List.all_eq_true.1 (by kernel_rfl : dataT.all orOk = true)
theorem take_min {α : Type} (T : List α) (h : T.length ≤ 6) (k : Nat) : ∃ k', k' < 7 ∧ T.take k = T.take k' := by
  by_cases hk : k < 7
  · exact ⟨k, hk, rfl⟩
  · exact ⟨6, by omega, by rw [List.take_of_length_le (by omega), List.take_of_length_le h]⟩
theorem getD_len {l : List (List Nat)} (a : Nat) : (l.getD a []).length = (l.map List.length).getD a 0 := by
  rw [List.getD_eq_getElem?_getD, List.getD_eq_getElem?_getD, List.getElem?_map]
  cases l[a]? <;> rfl
theorem Grp.orF {E : List (List Nat)} {d : Nat} (h : Grp d E) (h1 : 0 < d) (hd : d ≤ 5) (h24 : E.length ≤ 24) : OrF E d (tabG E d) := by
  have hp := h.prime_spec hd h24
  obtain ⟨x, hx, hok, ht, e1, e2, e3, e4, -⟩ := h.tab h1 hd h24
  have hs := shp_all x hx
  have ho := or_all x hx
  have hr := rows_all x hx
  have hn := h.pos
  have hcl : (classesN E).length = (repsN E E.length).length := by simp [classesN]
  have hsl : x.1.2.2.1.length = (classesN E).length := by rw [← e3, szE_length, hcl]
  have hsz : szE E = (classesN E).map List.length := rfl
  unfold shpOk at hs
  simp only [Bool.and_eq_true, beq_iff_eq, decide_eq_true_eq, List.all_eq_true] at hs
  have hfg : FG E d := by
    refine ⟨by omega, hp.2.1, h24, by omega, by omega, by rw [backC_length, hcl], fun b hb => by rw [hcl]; exact backC_lt h b hb, fun l hl => by have := (classes_len hl).1; omega, ?_, hok, by rw [ht]; omega, fun r hr => ?_⟩
    · rw [e1, e2]
      exact hs.1.1.2
    · rw [ht] at hr
      rw [e1]
      have h2 := hs.1.1.1.1.1.1.1.1.1.1.2 r hr
      refine funB_iff.2 ⟨by rw [h2.1.1.1, hsl], fun y hy => ?_⟩
      have := h2.1.1.2 y hy
      exact this
  have hT6 : x.2.length ≤ 6 := by omega
  have hTl : x.2.length = (classesN E).length := by omega
  unfold orOk at ho
  simp only [Bool.and_eq_true, beq_iff_eq, decide_eq_true_eq, List.all_eq_true, List.mem_range] at ho
  obtain ⟨⟨⟨o1, o2⟩, o3⟩, o4⟩ := ho
  unfold rowsOk at hr
  simp only [List.all_eq_true, List.mem_range, beq_iff_eq] at hr
  have hnl : (natT x.2).length = x.2.length := by unfold natT; rw [List.length_map]
  refine ⟨hfg, by omega, by rw [ht, hTl], hfg.rows, ?_, ?_, ?_, ?_, ?_, ?_, fun l hl => ?_⟩
  · rw [ht, e2]
    exact fun r hr => ⟨(o3 r hr).1.1, (o3 r hr).1.2, (o3 r hr).2⟩
  · rw [ht, e2]; exact o2
  · rw [ht]
    intro k
    obtain ⟨k', hk', e⟩ := take_min x.2 hT6 k
    have := o1 k' hk'
    unfold sqTo at this ⊢
    rw [e]; exact this
  · rw [ht]
    intro a b ha hb
    have := hr a (by omega) b (by omega)
    have g : ∀ i (hi : i < x.2.length), (natT x.2).getD i [] = (x.2[i]).map Int.toNat := fun i hi => by
      unfold natT
      rw [List.getD_eq_getElem?_getD, List.getElem?_map, List.getElem?_eq_getElem hi]; rfl
    rw [g a ha, g b hb] at this
    unfold prdI
    rw [e1, e2, e3, e4]
    exact this
  · rw [ht, e1, e2, e4]
    intro a b ha hb
    rw [getD_len, ← hsz, e3]
    exact (o4 a (by omega) b (by omega)).1
  · rw [ht]
    intro a b k ha hb
    obtain ⟨k', hk', e⟩ := take_min x.2 hT6 k
    have := (o4 a (by omega) b (by omega)).2 k' hk'
    unfold clTo at this ⊢
    rw [e]; exact this
  · exact (hs.1.2 l.length (by rw [← e3, hsz]; exact List.mem_map.2 ⟨l, hl, rfl⟩)).1.1
theorem tracesOrthogonal_true (v : Value) (L : List (List Int)) (w : World) (h : Args w v L) : Calls Tryz.prog 9 #[v] w fun e w' => e = .returned (.bool true) ∧ Below w.heap.size w w' := by
  rcases three L with hq | ⟨hq, ho⟩ | ⟨hq, E, hg⟩
  · refine orth_err v L w h 2 (.inl rfl) (fun u w' ha => ?_) (fun u w' ha => ?_) (fun u w' ha => ?_) (fun u w' ha => ?_)
    · exact (Table_no ha (by rw [genQ_tabA]; exact hq)).mono fun e w2 ⟨he, hb⟩ => ⟨_, _, _, he, hb⟩
    · exact (PElements_no ha (by rw [genQ_tabA]; exact hq)).mono fun e w2 ⟨he, hb⟩ => ⟨_, _, _, he, hb⟩
    · exact (Classes_no ha (by rw [genQ_tabA]; exact hq)).mono fun e w2 ⟨he, hb⟩ => ⟨_, _, _, he, hb⟩
    · exact Prime_no ha (by rw [genQ_tabA]; exact hq)
  · have ht := tabA_eq (.inl hq)
    refine orth_err v L w h 6 (.inr rfl) (fun u w' ha => ?_) (fun u w' ha => ?_) (fun u w' ha => ?_) (fun u w' ha => ?_)
    · rw [ht] at ha
      exact (Table_over ha hq ho).mono fun e w2 ⟨he, hb⟩ => ⟨_, _, _, he, hb⟩
    · rw [ht] at ha
      exact (PElements_over ha hq ho).mono fun e w2 ⟨he, hb⟩ => ⟨_, _, _, he, hb⟩
    · rw [ht] at ha
      exact (Classes_over ha hq ho).mono fun e w2 ⟨he, hb⟩ => ⟨_, _, _, he, hb⟩
    · rw [ht] at ha
      exact Prime_over ha hq ho
  · have ht := tabA_eq (.inl hq)
    have hp := genQ_perm hq
    have hgr := hg.grp fun q hq => by obtain ⟨p, hp1, rfl⟩ := List.mem_map.1 hq; exact hp.2.2.2.2.1 p hp1
    have h24 := hg.few
    have hF := hgr.orF hp.2.2.1 hp.2.2.2.1 h24
    refine orth_ok (E := E) (T := tabG E (L.headD []).length) (d := (L.headD []).length) v L w h hgr hp.2.2.2.1 hp.2.2.1 h24 hF (fun u w' ha => ?_) (fun u w' ha => ?_) (fun u w' ha => ?_) (fun u w' ha => ?_) (fun a b ha hb u x y w' hu hx hy => ?_)
    · rw [ht] at ha
      exact (Table_yes ha hq hg hF.fg.tab).mono fun e w2 ⟨u, he, ho, hb⟩ => ⟨u, he, rows_args (ho.slr (by have := hF.fg.few; omega)), hb⟩
    · rw [ht] at ha
      exact (PElements_yes ha hq hg).mono fun e w2 ⟨x, S, he, hr, hb⟩ => ⟨x, _, _, he, hr.1, hb⟩
    · rw [ht] at ha
      exact (Classes_yes ha hq hg).mono fun e w2 ⟨u, S, H, he, hr, hb⟩ => ⟨_, _, _, he, hr, hb⟩
    · rw [ht] at ha
      exact Prime_yes ha hq hg
    · rw [ht] at hu
      have fa := hF.rl _ (List.getElem_mem ha)
      have fb := hF.rl _ (List.getElem_mem hb)
      have l1 := (funB_iff.1 fa).1
      have l2 := (funB_iff.1 fb).1
      have := hF.fg.m24
      have hpr := hF.prod a b ha hb
      refine (Product_yes hu hq hg hF.fg hx hy (by omega) (by omega)).mono fun e w2 ⟨he, hb'⟩ => ⟨?_, hb'⟩
      rw [he]
      unfold proR
      rw [if_pos ⟨fa, fb⟩, hpr]
      by_cases hab : a = b
      · subst hab; simp
      · rw [if_neg hab, if_neg hab]; rfl
end Go.Proofs.YtdackakjcnnofaaGreat
