/- TracesSplits answers true. -/
import Derived.Test.YtdackakjcnnofaaYs
import Derived.Test.YtdackakjcnnofaaYt
import Derived.Test.YtdackakjcnnofaaFg
import Derived.Test.YtdackakjcnnofaaBo
import Derived.Test.YtdackakjcnnofaaB5
namespace Go.Proofs.Ytdackakjcnnofaa
open Go.RowKit

theorem funB_take30 {q m : Nat} {l : List Int} (hm : m < 30) : funB q m (l.take 30) = funB q m l ∧ (funB q m l = true → l.take 30 = l) := by
  by_cases h : l.length ≤ 30
  · have e := List.take_of_length_le h
    rw [e]; exact ⟨rfl, fun _ => rfl⟩
  · have h1 : (l.take 30).length ≠ m := by rw [List.length_take]; omega
    have h2 : l.length ≠ m := by omega
    rw [funB_len h1, funB_len h2]
    exact ⟨rfl, fun h => (by cases h)⟩
theorem getD_map_nat {l : List Int} (h : ∀ x ∈ l, 0 ≤ x) (k : Nat) : (((l.map Int.toNat).getD k 0 : Nat) : Int) = l.getD k 0 := by
  rw [List.getD_eq_getElem?_getD, List.getD_eq_getElem?_getD, List.getElem?_map]
  cases hx : l[k]? with
  | none => rfl
  | some y =>
    have := h y (List.mem_of_getElem? hx)
    simp; omega
theorem mulI_nat {q m : Nat} {x y : List Int} (hx : x.length = m) (hy : y.length = m) (px : ∀ z ∈ x, 0 ≤ z) (py : ∀ z ∈ y, 0 ≤ z) : (mulI q x y m).map Int.toNat = mulV q (x.map Int.toNat) (y.map Int.toNat) := by
  unfold mulI mulV
  apply List.ext_getElem (by simp [hx, hy])
  intro i h1 h2
  simp only [List.length_map, List.length_range] at h1
  simp only [List.getElem_map, List.getElem_range, List.getElem_zipWith]
  have e1 : x.getD i 0 = x[i]'(by omega) := getD_atS (by omega)
  have e2 : y.getD i 0 = y[i]'(by omega) := getD_atS (by omega)
  rw [e1, e2]
  have p1 := px _ (List.getElem_mem (show i < x.length by omega))
  have p2 := py _ (List.getElem_mem (show i < y.length by omega))
  obtain ⟨a, ha⟩ : ∃ a : Nat, x[i]'(by omega) = (a : Int) := ⟨(x[i]'(by omega)).toNat, by omega⟩
  obtain ⟨b, hb⟩ : ∃ b : Nat, y[i]'(by omega) = (b : Int) := ⟨(y[i]'(by omega)).toNat, by omega⟩
  rw [ha, hb]
  rw [← Int.natCast_mul, ← Int.ofNat_tmod, Int.toNat_natCast, Int.toNat_natCast, Int.toNat_natCast]
theorem mulI_fun {q m : Nat} {x y : List Int} (hq : 0 < q) (px : ∀ k, 0 ≤ x.getD k 0) (py : ∀ k, 0 ≤ y.getD k 0) : funB q m (mulI q x y m) = true := by
  refine funB_iff.2 ⟨mulI_len q x y m, fun z hz => ?_⟩
  obtain ⟨k, _, rfl⟩ := List.mem_map.1 hz
  have h1 := Int.mul_nonneg (px k) (py k)
  exact ⟨Int.tmod_nonneg _ h1, Int.tmod_lt_of_pos _ (by omega)⟩
theorem oneB_iff {x : List Int} {m : Nat} (hx : x.length = m) : oneB x m = true → ∀ c, c < m → (x.map Int.toNat).getD c 0 = 1 := by
  intro h c hc
  unfold oneB at h
  rw [List.take_of_length_le (by omega), List.all_eq_true] at h
  have := h _ (List.getElem_mem (show c < x.length by omega))
  rw [beq_iff_eq] at this
  rw [List.getD_eq_getElem?_getD, List.getElem?_map, List.getElem?_eq_getElem (show c < x.length by omega), this]; rfl
theorem splE_get {E : List (List Nat)} {d k : Nat} {F : List Int} (hk : k < (tabG E d).length) : (toI (splE E d F)).getD k 0 = ((prdI E d (tabG E d)[k] F : Nat) : Int) := by
  unfold splE
  rw [List.getD_eq_getElem?_getD]
  unfold toI
  rw [List.getElem?_map, List.getElem?_map, List.getElem?_eq_getElem hk]; rfl
theorem toI_toNat (l : List Nat) : (toI l).map Int.toNat = l := by simp [toI, List.map_map, Function.comp_def]
theorem Grp.splF {E : List (List Nat)} {d : Nat} (h : Grp d E) (h1 : 0 < d) (hd : d ≤ 5) (h24 : E.length ≤ 24) :
    SplF (primeN E d) (classesN E).length (tabG E d) (toI (fixedN E)) (orbitsN E d).length (toI (splE E d (toI (fixedN E)))) (fun i j => toI (splE E d (mulI (primeN E d) ((tabG E d).getD i []) ((tabG E d).getD j []) (classesN E).length))) := by
  have hfg := h.fgN h1 hd h24
  have hp := h.prime_spec hd h24
  obtain ⟨x, hx, hok, ht, e1, e2, e3, e4, -⟩ := h.tab h1 hd h24
  have hs := shp_all x hx
  have hsp := sp_all x hx
  have hcl : (classesN E).length = (repsN E E.length).length := by simp [classesN]
  have hsl : x.1.2.2.1.length = (classesN E).length := by rw [← e3, szE_length, hcl]
  unfold shpOk at hs
  simp only [Bool.and_eq_true, beq_iff_eq, decide_eq_true_eq, List.all_eq_true] at hs
  unfold spOk at hsp
  simp only [List.all_eq_true, decide_eq_true_eq] at hsp
  have hT6 : x.2.length ≤ 6 := by omega
  have hT0 : 0 < x.2.length := by omega
  have hrl : ∀ r ∈ tabG E d, r.length = (classesN E).length := fun r hr => (funB_iff.1 (hfg.rows r hr)).1
  have hrp : ∀ r ∈ tabG E d, ∀ y ∈ r, 0 ≤ y := fun r hr y hy => ((funB_iff.1 (hfg.rows r hr)).2 y hy).1
  have hol : (orbitsN E d).length ≤ d := by
    rw [← orbTo_end]; exact orbTo_len E d d
  have hsz : ∀ s ∈ szE E, s < primeN E d := fun s hs' => by
    obtain ⟨l, hl, rfl⟩ := List.mem_map.1 hs'
    have := (classes_len hl).1; omega
  have hgt : ∀ i (hi : i < (tabG E d).length), (tabG E d).getD i [] = (tabG E d)[i] := fun i hi => by rw [List.getD_eq_getElem?_getD, List.getElem?_eq_getElem hi]; rfl
  refine ⟨by have := hfg.q1; omega, hfg.q2, hfg.m0, hfg.m24, hfg.few, by rw [ht]; exact hT0, hfg.rows, fun i j hi hj => ?_, fun i j hi hj n hn => ?_, ?_, ?_, fun k hk ho => ?_, by omega⟩
  · rw [toI_length]; unfold splE; rw [List.length_map]
  · rw [hgt i hi, hgt j hj] at hn
    have hmi := List.getElem_mem hi
    have hmj := List.getElem_mem hj
    obtain ⟨z, hz, rfl⟩ := List.mem_map.1 hn
    unfold splE at hz
    obtain ⟨t, htm, rfl⟩ := List.mem_map.1 hz
    refine ⟨by omega, ?_⟩
    have hmn : ∀ r, r ∈ tabG E d → r.map Int.toNat ∈ natT x.2 := fun r hr => List.mem_map.2 ⟨r, by rw [← ht]; exact hr, rfl⟩
    have h3 := hsp ((tabG E d)[i].map Int.toNat) (hmn _ hmi) ((tabG E d)[j].map Int.toNat) (hmn _ hmj)
      (prdI E d t (mulI (primeN E d) (tabG E d)[i] (tabG E d)[j] (classesN E).length)) (by
        unfold splitV
        refine List.mem_map.2 ⟨t.map Int.toNat, hmn _ htm, ?_⟩
        unfold prdI
        rw [mulI_nat (hrl _ hmi) (hrl _ hmj) (hrp _ hmi) (hrp _ hmj), ← e1, ← e2, ← e3, ← e4])
    have g1 := getD_map_nat (hrp _ hmi) 0
    have g2 := getD_map_nat (hrp _ hmj) 0
    have k1 : ∀ l : List Nat, l.headD 0 = l.getD 0 0 := fun l => by cases l <;> rfl
    rw [k1, k1] at h3
    omega
  · rw [toI_length, fixedN_length]; have := hfg.m24; omega
  · rw [toI_length]; unfold splE; rw [List.length_map]
  · rw [splE_get hk]
    have hmk := List.getElem_mem hk
    have hf := oneB_iff (hrl _ hmk) ho
    have := h.fixed_prd (q := primeN E d) (f := (tabG E d)[k].map Int.toNat) hfg.ok hsz (by omega) (fun c hc => hf c (by omega))
    unfold prdI
    rw [toI_toNat, this]
theorem Grp.bk_eq {E : List (List Nat)} {d : Nat} {F : List Int} (x : DataT) (ht : tabG E d = x.2) (e1 : primeN E d = x.1.1) (e2 : E.length = x.1.2.1) (e3 : szE E = x.1.2.2.1) (e4 : backC E = x.1.2.2.2.1)
    (hrp : ∀ r ∈ tabG E d, ∀ y ∈ r, 0 ≤ y) (k : Nat) : ∀ j, j ≤ (tabG E d).length → bkI (toI (splE E d F)) (tabG E d) k j = ((backTo' x (F.map Int.toNat) k j : Nat) : Int)
  | 0, _ => rfl
  | j + 1, hj => by
    have hjl : j < (tabG E d).length := by omega
    have ih := Grp.bk_eq (F := F) x ht e1 e2 e3 e4 hrp k j (by omega)
    have hmj := List.getElem_mem hjl
    unfold bkI
    rw [ih, splE_get hjl]
    have hgt : (tabG E d).getD j [] = (tabG E d)[j] := by rw [List.getD_eq_getElem?_getD, List.getElem?_eq_getElem hjl]; rfl
    have hgn : (natT x.2).getD j [] = (tabG E d)[j].map Int.toNat := by
      unfold natT
      rw [← ht, List.getD_eq_getElem?_getD, List.getElem?_map, List.getElem?_eq_getElem hjl]; rfl
    rw [hgt, ← getD_map_nat (hrp _ hmj) k]
    have hsg : backTo' x (F.map Int.toNat) k (j + 1) = backTo' x (F.map Int.toNat) k j + prdP x.1.1 x.1.2.1 x.1.2.2.1 x.1.2.2.2.1 ((natT x.2).getD j []) (F.map Int.toNat) * ((natT x.2).getD j []).getD k 0 := rfl
    rw [hsg, hgn]
    unfold prdI
    rw [e1, e2, e3, e4]
    push_cast
    rfl
theorem tracesSplits_true (v : Value) (L : List (List Int)) (vf : Value) (F : List Int) (w : World) (h : Args w v L) (hf : Ints w vf F) : Calls Try.prog 5 #[v, vf] w fun e w' => e = .returned (.bool true) ∧ Below w.heap.size w w' := by
  rcases three L with hq | ⟨hq, ho⟩ | ⟨hq, E, hg⟩
  · refine splits_err v vf L F w h hf 2 (.inl rfl) (fun u w' ha => ?_) (fun u w' ha => ?_)
    · exact (Table_no ha (by rw [genQ_tabA]; exact hq)).mono fun e w2 ⟨he, hb⟩ => ⟨_, _, _, he, hb⟩
    · exact Prime_no ha (by rw [genQ_tabA]; exact hq)
  · have ht := tabA_eq (.inl hq)
    refine splits_err v vf L F w h hf 6 (.inr rfl) (fun u w' ha => ?_) (fun u w' ha => ?_)
    · rw [ht] at ha
      exact (Table_over ha hq ho).mono fun e w2 ⟨he, hb⟩ => ⟨_, _, _, he, hb⟩
    · rw [ht] at ha
      exact Prime_over ha hq ho
  · have ht := tabA_eq (.inl hq)
    have hp := genQ_perm hq
    have hgr := hg.grp fun q hq => by obtain ⟨p, hp1, rfl⟩ := List.mem_map.1 hq; exact hp.2.2.2.2.1 p hp1
    have h24 := hg.few
    have hF := hgr.splF hp.2.2.1 hp.2.2.2.1 h24
    have hfg := hgr.fgN hp.2.2.1 hp.2.2.2.1 h24
    have hpr := hgr.prime_spec hp.2.2.2.1 h24
    have hcl : (classesN E).length = (repsN E E.length).length := by simp [classesN]
    obtain ⟨d, hd⟩ : ∃ d, (L.headD []).length = d := ⟨_, rfl⟩
    have hm30 : (classesN E).length < 30 := by have := hfg.m24; omega
    have t30 : (F.take 30).length ≤ 1000000 := by rw [List.length_take]; omega
    rw [hd] at hgr hF hfg hpr
    have hd1 : 0 < d := by rw [← hd]; exact hp.2.2.1
    have hd5 : d ≤ 5 := by rw [← hd]; exact hp.2.2.2.1
    have hfew := hfg.few
    have hrp : ∀ r ∈ tabG E d, ∀ y ∈ r, 0 ≤ y := fun r hr y hy => ((funB_iff.1 (hfg.rows r hr)).2 y hy).1
    have hT : ∀ u w', Args w' u (tabA L) → Calls Try.prog 6 #[u] w' fun e w2 => ∃ x, e = .returned (.tuple #[x, .int .i64 0]) ∧ Args w2 x (tabG E d) ∧ Below w'.heap.size w' w2 := fun u w' ha => by
      rw [ht] at ha
      exact (Table_yes ha hq hg (by rw [hd]; exact hfg.tab)).mono fun e w2 ⟨u, he, ho, hb⟩ => ⟨u, he, by rw [hd] at ho; exact rows_args (ho.slr (by omega)), hb⟩
    have hP : ∀ u w', Args w' u (tabA L) → Calls Try.prog 16 #[u] w' fun e w2 => e = .returned (.tuple #[.int .i64 (primeN E d : Nat), .int .i64 0]) ∧ Below w'.heap.size w' w2 := fun u w' ha => by
      rw [ht] at ha
      rw [← hd]
      exact Prime_yes ha hq hg
    have hSp : ∀ (P : List Int) u x w', funB (primeN E d) (classesN E).length P = true → Args w' u (tabA L) → Ints w' x P → Calls Try.prog 17 #[u, x] w' fun e w2 => ∃ s, e = .returned (.tuple #[s, .int .i64 0]) ∧ Ints w2 s (toI (splE E d P)) ∧ Below w'.heap.size w' w2 := fun P u x w' hb ha hx => by
      rw [ht] at ha
      have hl := (funB_iff.1 hb).1
      rw [← hd] at hb ⊢
      exact (Split_yes ha hq hg (by rw [hd]; exact hfg) hx (by omega) hb).mono fun e w2 ⟨s, he, ho, hbb⟩ => ⟨s, he, ho.ints (by rw [toI_length]; unfold splE; rw [List.length_map, hd]; omega), hbb⟩
    have hpos : ∀ i (hi : i < (tabG E d).length) k, 0 ≤ (tabG E d)[i].getD k 0 := fun i hi k => (getD_bound (by have := hfg.q1; omega) (funB_iff.1 (hfg.rows _ (List.getElem_mem hi))).2 k).1
    have hS : ∀ i j (hi : i < (tabG E d).length) (hj : j < (tabG E d).length) u x w', Args w' u (tabA L) → Ints w' x (mulI (primeN E d) (tabG E d)[i] (tabG E d)[j] (classesN E).length) → Calls Try.prog 17 #[u, x] w' fun e w2 => ∃ s, e = .returned (.tuple #[s, .int .i64 0]) ∧ Ints w2 s ((fun i j => toI (splE E d (mulI (primeN E d) ((tabG E d).getD i []) ((tabG E d).getD j []) (classesN E).length))) i j) ∧ Below w'.heap.size w' w2 := fun i j hi hj u x w' ha hx => by
      have g1 : (tabG E d).getD i [] = (tabG E d)[i] := by rw [List.getD_eq_getElem?_getD, List.getElem?_eq_getElem hi]; rfl
      have g2 : (tabG E d).getD j [] = (tabG E d)[j] := by rw [List.getD_eq_getElem?_getD, List.getElem?_eq_getElem hj]; rfl
      show Calls Try.prog 17 #[u, x] w' fun e w2 => ∃ s, e = .returned (.tuple #[s, .int .i64 0]) ∧ Ints w2 s (toI (splE E d (mulI (primeN E d) ((tabG E d).getD i []) ((tabG E d).getD j []) (classesN E).length))) ∧ Below w'.heap.size w' w2
      rw [g1, g2]
      exact hSp _ u x w' (mulI_fun (by have := hfg.q1; omega) (hpos i hi) (hpos j hj)) ha hx
    have hfn : (fixedN E).length = (classesN E).length := by rw [fixedN_length, hcl]
    have hFX : ∀ u w', Args w' u (tabA L) → Calls Try.prog 19 #[u] w' fun e w2 => ∃ s, e = .returned (.tuple #[s, .int .i64 0]) ∧ Ints w2 s (toI (fixedN E)) ∧ Below w'.heap.size w' w2 := fun u w' ha => by
      rw [ht] at ha
      exact (Fixed_yes ha hq hg).mono fun e w2 ⟨u, he, ho, hb⟩ => ⟨u, he, ho.ints (by rw [toI_length]; omega), hb⟩
    have hOR : ∀ u w', Args w' u (tabA L) → Calls Try.prog 20 #[u] w' fun e w2 => ∃ a c, e = .returned (.tuple #[.slice a (orbitsN E d).length c, .int .i64 0]) ∧ Below w'.heap.size w' w2 := fun u w' ha => by
      rw [ht] at ha
      refine (Orbits_yes ha hq hg).mono fun e w2 ⟨u, S, he, ho, hb⟩ => ?_
      rw [hd] at ho
      obtain ⟨a, c, rfl⟩ := ho.1.form
      exact ⟨a, c, he, hb⟩
    have hfxb : funB (primeN E d) (classesN E).length (toI (fixedN E)) = true := by
      refine funB_iff.2 ⟨by rw [toI_length, hfn], fun y hy => ?_⟩
      obtain ⟨z, hz, rfl⟩ := List.mem_map.1 hy
      unfold fixedN at hz
      obtain ⟨r, hr, rfl⟩ := List.mem_map.1 hz
      have hrl := (reps_mem.1 hr).1
      have hlen := (hgr.perm _ (elP_mem hrl)).len
      have : fixP (elP E r) ≤ d := by
        unfold fixP
        rw [← hlen]
        exact Nat.le_trans List.countP_le_length (by simp)
      exact ⟨by omega, by omega⟩
    have hSF : ∀ u x w', Args w' u (tabA L) → Ints w' x (toI (fixedN E)) → Calls Try.prog 17 #[u, x] w' fun e w2 => ∃ s, e = .returned (.tuple #[s, .int .i64 0]) ∧ Ints w2 s (toI (splE E d (toI (fixedN E)))) ∧ Below w'.heap.size w' w2 := fun u x w' ha hx => hSp _ u x w' hfxb ha hx
    obtain ⟨f1, f2⟩ := funB_take30 (q := primeN E d) (l := F) hm30
    cases hFb : funB (primeN E d) (classesN E).length F with
    | false =>
      refine splits_bad v vf L F w h hf hF hT hP hS hFX hOR hSF (fun u x w' ha hx => ?_)
      rw [ht] at ha
      exact Split_bad ha hq hg (by rw [hd]; exact hfg) hx t30 (by rw [hd, f1]; exact hFb)
    | true =>
      have hFt := f2 hFb
      have hFi := funB_iff.1 hFb
      obtain ⟨x, hx, hok, htab, e1, e2, e3, e4, -⟩ := hgr.tab hd1 hd5 h24
      have hsl : x.1.2.2.1.length = (classesN E).length := by rw [← e3, szE_length, hcl]
      have hbk := Grp.bk_eq (F := F) x htab e1 e2 e3 e4 hrp
      have hnl : (natT x.2).length = (tabG E d).length := by unfold natT; rw [List.length_map, htab]
      have hFp : ∀ y ∈ F, 0 ≤ y := fun y hy => (hFi.2 y hy).1
      have hSn : ∀ j, j < (tabG E d).length → 0 ≤ (toI (splE E d F)).getD j 0 ∧ (toI (splE E d F)).getD j 0 < ((primeN E d : Nat) : Int) := fun j hj => by
        rw [splE_get hj]
        have : prdI E d (tabG E d)[j] F < primeN E d := by
          unfold prdI prdP
          exact Nat.mod_lt _ (by have := hfg.q1; omega)
        exact ⟨by omega, by omega⟩
      refine splits_yes v vf L F w h hf hF hT hP hS hFX hOR hSF (toI (splE E d F)) (by rw [toI_length]; unfold splE; rw [List.length_map]) hFi.1 hSn (fun k hk => getD_bound (by have := hfg.q1; omega) hFi.2 k) (fun k hk => ?_) (fun k j hk hj => ?_) (fun u x w' ha hx => ?_)
      · have h3 := split_back hx (F.map Int.toNat) (k := k) (by rw [hsl]; exact hk)
        rw [hbk k _ (Nat.le_refl _), ← getD_map_nat hFp k, ← hnl]
        rw [← e1] at h3
        have hq0 : 0 < primeN E d := by have := hfg.q1; omega
        generalize backTo' x (F.map Int.toNat) k (natT x.2).length = A at h3 ⊢
        generalize (F.map Int.toNat).getD k 0 = B at h3 ⊢
        generalize primeN E d = Q at h3 hq0 ⊢
        have h4 := Nat.div_add_mod A Q
        have h5 := Nat.div_add_mod B Q
        have h6 : ((A : Int) - (B : Int)) = (Q : Int) * ((A / Q : Nat) - (B / Q : Nat) : Int) := by
          rw [Int.mul_sub]
          have a1 : (Q : Int) * ((A / Q : Nat) : Int) + ((A % Q : Nat) : Int) = (A : Int) := by exact_mod_cast h4
          have a2 : (Q : Int) * ((B / Q : Nat) : Int) + ((B % Q : Nat) : Int) = (B : Int) := by exact_mod_cast h5
          rw [h3] at a1
          omega
        rw [h6]
        exact Int.mul_tmod_right _ _
      · have hb : ∀ j, j ≤ (tabG E d).length → 0 ≤ bkI (toI (splE E d F)) (tabG E d) k j ∧ bkI (toI (splE E d F)) (tabG E d) k j ≤ 4000 * (j : Int) := by
          intro j
          induction j with
          | zero => intro _; exact ⟨Int.le_refl _, by simp [bkI]⟩
          | succ j ih =>
            intro hj
            have h1 := ih (by omega)
            have h2 := hSn j (by omega)
            have h3 : (tabG E d).getD j [] = (tabG E d)[j]'(by omega) := by rw [List.getD_eq_getElem?_getD, List.getElem?_eq_getElem (by omega)]; rfl
            have h4 := getD_bound (by have := hfg.q1; omega) (funB_iff.1 (hfg.rows _ (List.getElem_mem (show j < (tabG E d).length by omega)))).2 k
            have hq := hfg.q2
            have h5 : (toI (splE E d F)).getD j 0 * (tabG E d)[j].getD k 0 ≤ 61 * 61 := Int.mul_le_mul (by omega) (by omega) (by omega) (by omega)
            have h6 : 0 ≤ (toI (splE E d F)).getD j 0 * (tabG E d)[j].getD k 0 := Int.mul_nonneg (by omega) (by omega)
            unfold bkI
            rw [h3]
            push_cast
            omega
        have := hb j hj
        exact ⟨this.1, by omega⟩
      · rw [hFt] at hx
        exact hSp F u x w' hFb ha hx
end Go.Proofs.Ytdackakjcnnofaa
