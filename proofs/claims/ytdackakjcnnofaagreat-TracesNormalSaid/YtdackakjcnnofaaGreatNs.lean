/- The program's Kernel, the reference's, and ContainsFunc with a closure that compares. -/
import Derived.Test.YtdackakjcnnofaaGreatA13
import Derived.Test.YtdackakjcnnofaaGreatFq
namespace Go.Proofs.YtdackakjcnnofaaGreat
open Go.RowKit
attribute [local go_sem] Oper.semAt_some

set_option maxHeartbeats 400000 in
theorem EqualV_any (v1 v2 : Value) (xs ys : List Int) (w : World) (h1 : Ints w v1 xs) (h2 : Ints w v2 ys) :
    Calls Tryz.prog 57 #[v1, v2] w fun e w' => e = .returned (.bool (decide (xs = ys))) ∧ Below w.heap.size w w' := by
  obtain ⟨a, c, rfl, hl1, _, hc1⟩ := h1
  obtain ⟨a', c', rfl, hl2, _, hc2⟩ := h2
  by_cases hl : xs.length = ys.length
  · have HL := Lib.hid hl; clear hl
    have hle : xs.length ≤ ys.length := by have := HL.out; omega
    have hge : ys.length ≤ xs.length := by have := HL.out; omega
    go_enter Tryz.func57, Tryz.ntmps57
    go_wp2
    go_loopw [13] (fun i wr => ∃ k : Nat, k ≤ xs.length ∧ i = .int .i64 k ∧ xs.take k = ys.take k ∧ Below w.heap.size w wr) (fun i _ => xs.length - (intOf i).toNat)
    case atStart => exact ⟨0, Nat.zero_le _, rfl, rfl, Below.refl _ _⟩
    case round =>
      obtain ⟨k, hk, rfl, ht, hb⟩ := hrel
      have HT := Lib.hid ht; clear ht
      by_cases hlt : k < xs.length
      · have hlt2 : k < ys.length := by omega
        obtain ⟨b, off, rfl, hbl, hcell⟩ := hc1 (ne_nil_of_lt hlt)
        obtain ⟨b2, off2, rfl, hbl2, hcell2⟩ := hc2 (ne_nil_of_lt hlt2)
        have hcx := (hb.cell (p := ⟨b, off + k, none⟩) hbl).trans (hcell k hlt)
        have hcy := (hb.cell (p := ⟨b2, off2 + k, none⟩) hbl2).trans (hcell2 k hlt2)
        clear hcell hcell2 hc1 hc2
        by_cases hxy : xs[k] = ys[k]
        · have HXY := Lib.hid hxy
          have hne : (xs[k] != ys[k]) = false := by rw [hxy]; simp
          clear hxy
          go_wp2
          go_quiet (fail)
          go_wp2
          go_roundw
          case rel => exact ⟨k + 1, by omega, by go_num, eq_step hlt hlt2 HXY.out HT.out, below_drewN hb _⟩
          case measure => simp [intOf]; omega
        · have HXY := Lib.hid (ne_of_at hlt hlt2 hxy)
          have hne : (xs[k] != ys[k]) = true := by simpa using hxy
          clear hxy
          go_wp2
          go_quiet (fail)
          go_wp2
          go_ret
          exact ⟨ret_bool HXY.out.symm, below_drewN hb _⟩
      · have HE := Lib.hid (eq_end (k := k) (by omega) (by omega) HT.out)
        go_wp2
        go_ret
        exact ⟨ret_bool HE.out.symm, hb⟩
  · have HE := Lib.hid (ne_of_len hl)
    go_enter Tryz.func57, Tryz.ntmps57
    go_wp2
    go_ret
    exact ⟨ret_bool HE.out.symm, Below.refl _ _⟩
/-- A closure's variable. -/
structure CapF (w : World) (p : Nat) (u : Value) (xs : List Int) : Prop where
  cell : w.cell? ⟨p, 0, none⟩ = some u
  lt : p < w.heap.size
  ints : Ints w u xs
theorem CapF.below {w w' : World} {p : Nat} {u : Value} {xs : List Int} (h : CapF w p u xs) (hb : Below w.heap.size w w') : CapF w' p u xs :=
  ⟨(hb.cell (p := ⟨p, 0, none⟩) h.lt).trans h.cell, Nat.lt_of_lt_of_le h.lt hb.size, h.ints.below hb⟩
theorem getD_atN {l : List Int} {i : Nat} (h : i < l.length) : l.getD i 0 = l[i] := by rw [List.getD_eq_getElem?_getD, List.getElem?_eq_getElem h]; rfl
theorem ints_cells {W : World} {a : Option Addr} {m c : Nat} {l : List Int} (h : Ints W (.slice a m c) l) (hm : 0 < l.length) : ∃ b o, a = some ⟨b, o, none⟩ ∧ b < W.heap.size ∧ ∀ i, i < l.length → W.cell? ⟨b, o + i, none⟩ = some (.int .i64 (l.getD i 0)) := by
  obtain ⟨_, _, e1, -, -, hc1⟩ := h
  obtain ⟨b2, o2, e2, hb, hc2⟩ := hc1 (List.ne_nil_of_length_pos hm)
  obtain ⟨rfl, -, rfl⟩ := Value.slice.inj e1
  exact ⟨b2, o2, e2, hb, fun i hi => by rw [hc2 i hi, getD_atN hi]⟩
theorem mem_take_succ {T : List (List Int)} {k : Nat} (h : k < T.length) {x : List Int} (h1 : x ∉ T.take k) (h2 : T[k] ≠ x) : x ∉ T.take (k + 1) := by
  rw [List.take_succ_eq_append_getElem h]
  intro hm
  rcases List.mem_append.1 hm with hm | hm
  · exact h1 hm
  · exact h2 (List.mem_singleton.1 hm).symm
theorem closV_any {p : Nat} (u v : Value) (xs ys : List Int) (w : World) (h : CapF w p u xs) (hv : Ints w v ys) :
    Calls Tryz.prog 56 #[v, .pointer (some ⟨p, 0, none⟩)] w fun e w' => e = .returned (.bool (decide (ys = xs))) ∧ Below w.heap.size w w' := by
  have EQ := Lib.hid (EqualV_any v u ys xs w hv h.ints)
  have hc := h.cell
  obtain ⟨a, c, rfl, -, -, -⟩ := h.ints
  clear h hv
  go_enter Tryz.func56, Tryz.ntmps56
  go_wp2_with (go_at_call 57; refine EQ.out.mono ?_; rintro e w2 ⟨rfl, hb⟩; have HB := Lib.hid hb; clear hb)
  go_ret
  exact ⟨rfl, HB.out⟩
set_option maxRecDepth 20000 in
set_option maxHeartbeats 1000000 in
theorem indexV_any {p : Nat} (v u : Value) (T : List (List Int)) (x : List Int) (w : World) (h1 : Args w v T) (hp : CapF w p u x) (hl : T.length ≤ 1000000) :
    Calls Tryz.prog 92 #[v, .func (.func 56) #[] #[.pointer (some ⟨p, 0, none⟩)]] w fun e w' => (∃ z : Int, e = .returned (.int .i64 z) ∧ (0 ≤ z ↔ x ∈ T)) ∧ Below w.heap.size w w' := by
  have H1 := Lib.hid (fun (w' : World) (hb : Below w.heap.size w w') => h1.below hb)
  have HP := Lib.hid (fun (w' : World) (hb : Below w.heap.size w w') => hp.below hb)
  obtain ⟨a, c, rfl⟩ := h1.form
  obtain ⟨n, hn⟩ : ∃ n, T.length = n := ⟨_, rfl⟩
  have HN := Lib.hid hn
  rw [hn] at hl ⊢
  clear h1 hp hn
  go_enter Tryz.func92, Tryz.ntmps92
  go_wp2
  go_loopw [8] (fun ix wr => ∃ k : Nat, k ≤ n ∧ ix = .int .i64 k ∧ x ∉ T.take k ∧ Below w.heap.size w wr) (fun ix _ => n - (intOf ix).toNat)
  case atStart => exact ⟨0, Nat.zero_le _, rfl, by simp, Below.refl _ _⟩
  case round =>
    obtain ⟨k, hk, rfl, hx, hb⟩ := hrel
    have HX := Lib.hid hx
    have HB := Lib.hid hb
    by_cases hlt : k < n
    · have hki : (k : Int) < (n : Int) := by omega
      have hkT : k < T.length := by rw [HN.out]; exact hlt
      obtain ⟨g, o, cap, r, e1, _, hc1, hf1⟩ := (H1.out wr hb).at k hkT
      obtain ⟨rfl, _, rfl⟩ := Value.slice.inj e1
      have C := Lib.hid (closV_any u r x T[k] wr (HP.out wr hb) hf1)
      obtain ⟨ua, uc, uf, _⟩ := hf1
      subst uf
      clear hx hb e1
      by_cases hxy : T[k] = x
      · have HD := Lib.hid (show decide (T[k] = x) = true by simpa using hxy)
        have HM := Lib.hid (show x ∈ T by rw [← hxy]; exact List.getElem_mem hkT)
        clear hxy
        go_wp2_with (go_at_call 56; refine C.out.mono ?_; rintro e w2 ⟨rfl, hb2⟩; rw [HD.out])
        go_ret
        exact ⟨⟨k, rfl, ⟨fun _ => HM.out, fun _ => by omega⟩⟩, HB.out.trans (hb2.mono HB.out.size)⟩
      · have HD := Lib.hid (show decide (T[k] = x) = false by simpa using hxy)
        have HX2 := Lib.hid (mem_take_succ hkT HX.out hxy)
        clear hxy
        go_wp2_with (go_at_call 56; refine C.out.mono ?_; rintro e w2 ⟨rfl, hb2⟩; rw [HD.out])
        go_roundw
        case rel => exact ⟨k + 1, hlt, by go_num, HX2.out, HB.out.trans (hb2.mono HB.out.size)⟩
        case measure => simp [intOf]; omega
    · obtain rfl : n = k := by omega
      have hki : ¬ (n : Int) < (n : Int) := by omega
      have HM := Lib.hid (show x ∉ T by have := HX.out; rw [List.take_of_length_le (by rw [HN.out]; exact Nat.le_refl _)] at this; exact this)
      clear hx hb
      go_wp2
      go_ret
      exact ⟨⟨-1, rfl, ⟨fun h => absurd h (by decide), fun h => absurd h HM.out⟩⟩, HB.out⟩
theorem containsV_any {p : Nat} (v u : Value) (T : List (List Int)) (x : List Int) (w : World) (h1 : Args w v T) (hp : CapF w p u x) (hl : T.length ≤ 1000000) :
    Calls Tryz.prog 55 #[v, .func (.func 56) #[] #[.pointer (some ⟨p, 0, none⟩)]] w fun e w' => e = .returned (.bool (decide (x ∈ T))) ∧ Below w.heap.size w w' := by
  have C := Lib.hid (indexV_any v u T x w h1 hp hl)
  obtain ⟨a, c, rfl⟩ := h1.form
  clear h1 hp
  go_enter Tryz.func55, Tryz.ntmps55
  go_wp2_with (go_at_call 92; refine C.out.mono ?_; rintro e w2 ⟨⟨z, rfl, hz⟩, hb2⟩; have HB := Lib.hid hb2; have HZ := Lib.hid hz; clear hb2 hz)
  go_ret
  exact ⟨ret_bool (decide_eq_decide.2 HZ.out), HB.out⟩
/-- The places at which a function is what it is at the first one. -/
def kefTo (f : List Int) (c : Nat) : List Nat := (List.range c).filter fun i => f.getD i 0 == f.getD 0 0
def kefL (f : List Int) : List Nat := kefTo f f.length
theorem kefTo_succ (f : List Int) (c : Nat) : kefTo f (c + 1) = kefTo f c ++ if (f.getD c 0 == f.getD 0 0) = true then [c] else [] := by
  unfold kefTo
  rw [List.range_succ, List.filter_append]
  congr 1
  rw [List.filter_cons, List.filter_nil]
theorem kefTo_len (f : List Int) (c : Nat) : (kefTo f c).length ≤ c := Nat.le_trans (List.length_filter_le _ _) (by simp)
section
variable {v vf : Value} {L : List (List Int)} {F : List Int} {w : World} {E : List (List Nat)}
theorem Kernel_no (h : Args w v L) (hvf : Ints w vf F) (hq : genQ L = false) : Calls Tryz.prog 23 #[v, vf] w fun e w' => e = .returned (.tuple #[.slice none 0 0, .int .i64 2]) ∧ Below w.heap.size w w' := by
  have RD := Lib.hid (fun W (hb : Below w.heap.size w W) => read_no (h.below hb) hq)
  obtain ⟨af, cf, rfl, -, -, -⟩ := hvf
  clear h hq
  go_enter Tryz.func23, Tryz.ntmps23
  have HB0 := Lib.hid (show Below w.heap.size w (w.alloc (.cells #[.slice af F.length cf] 27)) from (Below.refl _ _).alloc (Nat.le_refl _) _)
  go_wp2_with (go_at_call 43; refine (RD.out _ HB0.out).mono ?_; rintro e w1 ⟨rfl, hb⟩; have HB := Lib.hid (HB0.out.trans (hb.mono HB0.out.size)); clear hb)
  go_ret2
  exact ⟨rfl, HB.out⟩
theorem Kernel_over (h : Args w v L) (hvf : Ints w vf F) (hq : genQ L = true) (ho : Over (L.headD []).length (L.map natP)) : Calls Tryz.prog 23 #[v, vf] w fun e w' => e = .returned (.tuple #[.slice none 0 0, .int .i64 6]) ∧ Below w.heap.size w w' := by
  have RD := Lib.hid (fun W (hb : Below w.heap.size w W) => read_over (h.below hb) hq ho)
  obtain ⟨af, cf, rfl, -, -, -⟩ := hvf
  clear h hq ho
  go_enter Tryz.func23, Tryz.ntmps23
  have HB0 := Lib.hid (show Below w.heap.size w (w.alloc (.cells #[.slice af F.length cf] 27)) from (Below.refl _ _).alloc (Nat.le_refl _) _)
  go_wp2_with (go_at_call 43; refine (RD.out _ HB0.out).mono ?_; rintro e w1 ⟨rfl, hb⟩; have HB := Lib.hid (HB0.out.trans (hb.mono HB0.out.size)); clear hb)
  go_ret2
  exact ⟨rfl, HB.out⟩
set_option maxRecDepth 20000 in
set_option maxHeartbeats 4000000 in
theorem Kernel_bad (h : Args w v L) (hq : genQ L = true) (hg : IsG (L.headD []).length (L.map natP) E) (hf : FG E (L.headD []).length) (hvf : Ints w vf F) (hFT : F ∉ tabG E (L.headD []).length) :
    Calls Tryz.prog 23 #[v, vf] w fun e w' => e = .returned (.tuple #[.slice none 0 0, .int .i64 2]) ∧ Below w.heap.size w w' := by
  have RD := Lib.hid (fun W (hb : Below w.heap.size w W) => read_yes (h.below hb) hq hg)
  have hp := genQ_perm hq
  have hgr := hg.grp fun q hq => by obtain ⟨p, hp1, rfl⟩ := List.mem_map.1 hq; exact hp.2.2.2.2.1 p hp1
  have hd5 := hp.2.2.2.1
  have h24 := hg.few
  obtain ⟨d, hd⟩ : ∃ d, (L.headD []).length = d := ⟨_, rfl⟩
  rw [hd] at RD hf hgr hd5 hFT
  have TB := Lib.hid (fun (bg : Nat) (W : World) (hp : PG d E W bg) => table_any' bg W hgr hd5 h24 hp hf.tab)
  have hfw := hf.few
  have HFW := Lib.hid hvf
  obtain ⟨af, cf, rfl, -, -, -⟩ := id hvf
  obtain ⟨T, hT⟩ : ∃ T, tabG E d = T := ⟨_, rfl⟩
  rw [hT] at TB hfw hFT
  have HD := Lib.hid (show decide (F ∈ T) = false by simpa using hFT)
  have HTL := Lib.hid (show T.length ≤ 1000000 by omega)
  obtain ⟨n, hn⟩ : ∃ n, F.length = n := ⟨_, rfl⟩
  rw [hn] at HFW ⊢
  have HC0 := Lib.hid (show CapF (w.alloc (.cells #[.slice af n cf] 27)) w.heap.size (.slice af n cf) F from ⟨cell_new1 _ _ _, by simp, HFW.out.below ((Below.refl _ _).alloc (Nat.le_refl _) _)⟩)
  clear h hq hg hf hvf hgr hd hT hn hp hFT
  go_enter Tryz.func23, Tryz.ntmps23
  have HB0 := Lib.hid (show Below w.heap.size w (w.alloc (.cells #[.slice af n cf] 27)) from (Below.refl _ _).alloc (Nat.le_refl _) _)
  go_wp2_with (first
    | (go_at_call 43; refine (RD.out _ HB0.out).mono ?_; rintro e w1 ⟨bg, rfl, hp, hb⟩; have HP := Lib.hid hp; have HC := Lib.hid (HC0.out.below hb); have HB := Lib.hid (HB0.out.trans (hb.mono HB0.out.size)); clear hp hb)
    | (go_at_call 44; refine (TB.out bg _ HP.out).mono ?_; rintro e w3 ⟨v2, rfl, ho2, hb2⟩; have HC := Lib.hid (HC.out.below hb2); have HB := Lib.hid (HB.out.trans (hb2.mono HB.out.size)); have HV2 := Lib.hid (Vecs.args (ho2.slr HTL.out)); clear ho2 hb2)
    | (go_at_call 55; refine (containsV_any _ _ T F _ HV2.out HC.out HTL.out).mono ?_; rintro e w4 ⟨rfl, hb2⟩; rw [HD.out]; have HB := Lib.hid (HB.out.trans (hb2.mono HB.out.size)); clear hb2))
  go_ret2
  exact ⟨rfl, HB.out⟩
set_option maxRecDepth 20000 in
set_option maxHeartbeats 4000000 in
theorem Kernel_yes (h : Args w v L) (hq : genQ L = true) (hg : IsG (L.headD []).length (L.map natP) E) (hf : FG E (L.headD []).length) (hvf : Ints w vf F) (hFT : F ∈ tabG E (L.headD []).length) :
    Calls Tryz.prog 23 #[v, vf] w fun e w' => ∃ u, e = .returned (.tuple #[u, .int .i64 0]) ∧ OwnI 3 w.heap.size w' u (toI (kefL F)) ∧ Below w.heap.size w w' := by
  have RD := Lib.hid (fun W (hb : Below w.heap.size w W) => read_yes (h.below hb) hq hg)
  have hp := genQ_perm hq
  have hgr := hg.grp fun q hq => by obtain ⟨p, hp1, rfl⟩ := List.mem_map.1 hq; exact hp.2.2.2.2.1 p hp1
  have hd5 := hp.2.2.2.1
  have h24 := hg.few
  obtain ⟨d, hd⟩ : ∃ d, (L.headD []).length = d := ⟨_, rfl⟩
  rw [hd] at RD hf hgr hd5 hFT
  have TB := Lib.hid (fun (bg : Nat) (W : World) (hp : PG d E W bg) => table_any' bg W hgr hd5 h24 hp hf.tab)
  have hfw := hf.few
  have hfl := (funB_iff.1 (hf.rows F hFT)).1
  have hm0 := hf.m0
  have hm24 := hf.m24
  have HFW := Lib.hid hvf
  obtain ⟨af, cf, rfl, -, -, -⟩ := id hvf
  obtain ⟨bf, of, rfl, hbf, hcf⟩ := ints_cells hvf (by omega)
  obtain ⟨T, hT⟩ : ∃ T, tabG E d = T := ⟨_, rfl⟩
  rw [hT] at TB hfw hFT
  have HD := Lib.hid (show decide (F ∈ T) = true by simpa using hFT)
  have HTL := Lib.hid (show T.length ≤ 1000000 by omega)
  obtain ⟨n, hn⟩ : ∃ n, F.length = n := ⟨_, rfl⟩
  have HN := Lib.hid hn
  rw [hn] at HFW hcf hfl ⊢
  have hn0 : 0 < n := by omega
  have hn24 : n ≤ 24 := by omega
  have HCF := Lib.hid (fun W (hb : Below w.heap.size w W) i (hi : i < n) => (hb.cell (p := ⟨bf, of + i, none⟩) hbf).trans (hcf i hi))
  have HC0 := Lib.hid (show CapF (w.alloc (.cells #[.slice (some ⟨bf, of, none⟩) n cf] 27)) w.heap.size (.slice (some ⟨bf, of, none⟩) n cf) F from ⟨cell_new1 _ _ _, by simp, HFW.out.below ((Below.refl _ _).alloc (Nat.le_refl _) _)⟩)
  clear h hq hg hf hvf hgr hd hT hn hp hFT hcf hfl hm0 hm24
  go_enter Tryz.func23, Tryz.ntmps23
  have HB0 := Lib.hid (show Below w.heap.size w (w.alloc (.cells #[.slice (some ⟨bf, of, none⟩) n cf] 27)) from (Below.refl _ _).alloc (Nat.le_refl _) _)
  go_upto_region 7 with (first
    | (go_at_call 43; refine (RD.out _ HB0.out).mono ?_; rintro e w1 ⟨bg, rfl, hp, hb⟩; have HP := Lib.hid hp; have HC := Lib.hid (HC0.out.below hb); have HB := Lib.hid (HB0.out.trans (hb.mono HB0.out.size)); clear hp hb)
    | (go_at_call 44; refine (TB.out bg _ HP.out).mono ?_; rintro e w3 ⟨v2, rfl, ho2, hb2⟩; have HC := Lib.hid (HC.out.below hb2); have HB := Lib.hid (HB.out.trans (hb2.mono HB.out.size)); have HV2 := Lib.hid (Vecs.args (ho2.slr HTL.out)); clear ho2 hb2)
    | (go_at_call 55; refine (containsV_any _ _ T F _ HV2.out HC.out HTL.out).mono ?_; rintro e w4 ⟨rfl, hb2⟩; rw [HD.out]; have HC := Lib.hid (HC.out.below hb2); have HB := Lib.hid (HB.out.trans (hb2.mono HB.out.size)); clear hb2))
  obtain ⟨p, hp⟩ : ∃ p, w.heap.size = p := ⟨_, rfl⟩
  have HPW := Lib.hid hp
  have HCP := Lib.hid HC.out
  rw [hp] at HCP ⊢
  have hcp := HCP.out.cell
  clear HC0 HC HP hp
  go_wp2
  go_loopw [8, 28] (fun vo ix wr => ∃ c : Nat, c ≤ n ∧ ix = .int .i64 c ∧ OwnI 3 w4.heap.size wr vo (toI (kefTo F c)) ∧ Below w4.heap.size w4 wr) (fun _ ix _ => n - (intOf ix).toNat)
  case atStart => exact ⟨0, Nat.zero_le _, rfl, OwnI.nil _ _ _, Below.refl _ _⟩
  case round =>
    obtain ⟨c, hc, rfl, ho, hb⟩ := hrel
    have HO := Lib.hid ho
    have HB1 := Lib.hid hb
    have HBW := Lib.hid (HB.out.trans (hb.mono HB.out.size))
    have hle := hb.size
    obtain ⟨a8, n8, c8, rfl⟩ := own_form ho
    have hcp := (HCP.out.below hb).cell
    clear ho
    by_cases hlt : c < n
    · have hci : (c : Int) < (n : Int) := by omega
      have hn0i : (0 : Int) < (n : Int) := by omega
      have hx := HCF.out wr HBW.out c hlt
      have hy := HCF.out wr HBW.out 0 hn0
      rw [Nat.add_zero] at hy
      have HS := Lib.hid (kefTo_succ F c)
      have HSL := Lib.hid (show (toI (kefTo F c)).length < 1000000 by rw [toI_length]; have := kefTo_len F c; omega)
      obtain ⟨x, hxe⟩ : ∃ x, F.getD c 0 = x := ⟨_, rfl⟩
      obtain ⟨y, hye⟩ : ∃ y, F.getD 0 0 = y := ⟨_, rfl⟩
      rw [hxe] at hx
      rw [hye] at hy
      have HS := Lib.hid (show kefTo F (c + 1) = kefTo F c ++ if (x == y) = true then [c] else [] by rw [HS.out, hxe, hye])
      clear hxe hye hb
      by_cases hxy : x = y
      · subst hxy
        have hbb : (x == x) = true := by simp
        have HS2 := Lib.hid (show toI (kefTo F (c + 1)) = toI (kefTo F c) ++ [(c : Int)] by rw [HS.out, if_pos hbb, toI_append]; rfl)
        go_wp2_with (at_builtin; refine wpList_app1_at rfl _ _ rfl w4.heap.size _ (toI (kefTo F c)) (c : Int) rfl (HO.out.alloc _) ⟨_, 0, none⟩ 1 rfl (cell_new1 _ _ _) HSL.out (by simp; omega) ?_; intro v5 w5 ho5 hg5 hl5; have HO5 := Lib.hid ho5; have HB5 := Lib.hid ((HB1.out.alloc hle _).grown hg5 (by simp; omega) (fun j hj => (HO.out.lt j hj).1)); clear ho5 hg5 hl5)
        go_roundw
        case rel => exact ⟨c + 1, hlt, by go_num, by rw [HS2.out]; exact HO5.out, HB5.out⟩
        case measure => simp [intOf]; omega
      · have hbb : (x == y) = false := by simpa using hxy
        have HS2 := Lib.hid (show kefTo F (c + 1) = kefTo F c by rw [HS.out, hbb]; simp)
        go_wp2
        go_roundw
        case rel => exact ⟨c + 1, hlt, by go_num, by rw [HS2.out]; exact HO.out, HB1.out⟩
        case measure => simp [intOf]; omega
    · obtain rfl : n = c := by omega
      have hci : ¬ (n : Int) < (n : Int) := by omega
      have HKE := Lib.hid (show kefL F = kefTo F n by unfold kefL; rw [HN.out])
      clear hb
      go_wp2
      go_ret2
      exact ⟨_, rfl, by rw [HKE.out]; exact OwnI.mono HO.out HB.out.size, HBW.out⟩
end
end Go.Proofs.YtdackakjcnnofaaGreat
