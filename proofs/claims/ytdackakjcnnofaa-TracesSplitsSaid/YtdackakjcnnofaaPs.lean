/- Product and Split of the program. -/
import Derived.Test.YtdackakjcnnofaaPq
namespace Go.Proofs.Ytdackakjcnnofaa
open Go.RowKit
attribute [local go_sem] Oper.semAt_some

theorem toI_nat {l : List Int} (h : ∀ x ∈ l, 0 ≤ x) : toI (l.map Int.toNat) = l := by
  unfold toI
  rw [List.map_map]
  conv => rhs; rw [← List.map_id l]
  refine List.map_congr_left fun x hx => ?_
  have := h x hx
  simp; omega
section
variable {E : List (List Nat)} {d bg : Nat} {w : World}
theorem isF_any (hf : FG E d) (hp : PG d E w bg) (v : Value) (l : List Int) (hv : Ints w v l) (hl : l.length ≤ 1000000) : Calls Try.prog 28 #[.pointer (some ⟨bg, 0, none⟩), v] w fun e w' => e = .returned (.bool (funB (primeN E d) (classesN E).length l)) ∧ Below w.heap.size w w' :=
  isFunction_any bg (primeN E d) E.length (classesN E) (backC E) v l w hp.gd hv hf.m0 hf.m24 hl
/-- The program's product, of lists of numbers. -/
def prdI (E : List (List Nat)) (d : Nat) (F G : List Int) : Nat := prdP (primeN E d) E.length (szE E) (backC E) (F.map Int.toNat) (G.map Int.toNat)
theorem prod_any (hf : FG E d) (hp : PG d E w bg) (vf vh : Value) (F G : List Int) (hvf : Ints w vf F) (hvh : Ints w vh G) (hF : funB (primeN E d) (classesN E).length F = true) (hG : funB (primeN E d) (classesN E).length G = true) :
    Calls Try.prog 29 #[.pointer (some ⟨bg, 0, none⟩), vf, vh] w fun e w' => e = .returned (.int .i64 (prdI E d F G : Nat)) ∧ Below w.heap.size w w' := by
  have h1 := funB_iff.1 hF
  have h2 := funB_iff.1 hG
  have e1 := toI_nat (fun x hx => (h1.2 x hx).1)
  have e2 := toI_nat (fun x hx => (h2.2 x hx).1)
  refine product_any bg (primeN E d) E.length vf vh (classesN E) (backC E) (F.map Int.toNat) (G.map Int.toNat) w hp.gd hf.q1 hf.q2 (by rw [e1]; exact hvf) (by rw [e2]; exact hvh) (by rw [List.length_map]; exact h1.1) (by rw [List.length_map]; exact h2.1) (fun x hx => ?_) (fun x hx => ?_) hf.bl hf.bb hf.cl hf.m24 hf.m0 hf.n hf.ok
  · obtain ⟨y, hy, rfl⟩ := List.mem_map.1 hx
    have := h1.2 y hy; omega
  · obtain ⟨y, hy, rfl⟩ := List.mem_map.1 hx
    have := h2.2 y hy; omega
end
section
variable {v vf vh : Value} {L : List (List Int)} {F G : List Int} {w : World} {E : List (List Nat)}
theorem Split_no (h : Args w v L) (hq : genQ L = false) : Calls Try.prog 17 #[v, vf] w fun e w' => e = .returned (.tuple #[.slice none 0 0, .int .i64 2]) ∧ Below w.heap.size w w' := by
  have RD := Lib.hid (read_no h hq)
  clear h hq
  go_enter Try.func17, Try.ntmps17
  go_wp2_with (go_at_call 21; refine RD.out.mono ?_; rintro e w1 ⟨rfl, hb⟩)
  go_ret2
  exact ⟨rfl, hb⟩
theorem Split_over (h : Args w v L) (hq : genQ L = true) (ho : Over (L.headD []).length (L.map natP)) : Calls Try.prog 17 #[v, vf] w fun e w' => e = .returned (.tuple #[.slice none 0 0, .int .i64 6]) ∧ Below w.heap.size w w' := by
  have RD := Lib.hid (read_over h hq ho)
  clear h hq ho
  go_enter Try.func17, Try.ntmps17
  go_wp2_with (go_at_call 21; refine RD.out.mono ?_; rintro e w1 ⟨rfl, hb⟩)
  go_ret2
  exact ⟨rfl, hb⟩
theorem Split_bad (h : Args w v L) (hq : genQ L = true) (hg : IsG (L.headD []).length (L.map natP) E) (hf : FG E (L.headD []).length) (hvf : Ints w vf F) (hFl : F.length ≤ 1000000) (hb : funB (primeN E (L.headD []).length) (classesN E).length F = false) :
    Calls Try.prog 17 #[v, vf] w fun e w' => e = .returned (.tuple #[.slice none 0 0, .int .i64 2]) ∧ Below w.heap.size w w' := by
  have RD := Lib.hid (read_yes h hq hg)
  have IF1 := Lib.hid (fun (bg : Nat) (W : World) (hb : Below w.heap.size w W) (hp : PG (L.headD []).length E W bg) => isF_any hf hp vf F (hvf.below hb) hFl)
  rw [hb] at IF1
  obtain ⟨af, cf, rfl, -, -, -⟩ := id hvf
  clear h hq hg hf hvf hFl hb
  go_enter Try.func17, Try.ntmps17
  go_wp2_with (first
    | (go_at_call 21; refine RD.out.mono ?_; rintro e w1 ⟨bg, rfl, hp, hb⟩; have HP := Lib.hid hp; have HB := Lib.hid hb; clear hp hb)
    | (go_at_call 28; refine (IF1.out bg _ HB.out HP.out).mono ?_; rintro e w2 ⟨rfl, hb2⟩; have HB := Lib.hid (HB.out.trans (hb2.mono HB.out.size)); clear hb2 IF1))
  go_ret2
  exact ⟨rfl, HB.out⟩
/-- The products with the whole table. -/
def splE (E : List (List Nat)) (d : Nat) (F : List Int) : List Nat := (tabG E d).map fun t => prdI E d t F
set_option maxRecDepth 20000 in
set_option maxHeartbeats 1000000 in
theorem Split_yes (h : Args w v L) (hq : genQ L = true) (hg : IsG (L.headD []).length (L.map natP) E) (hf : FG E (L.headD []).length) (hvf : Ints w vf F) (hFl : F.length ≤ 1000000) (hb : funB (primeN E (L.headD []).length) (classesN E).length F = true) :
    Calls Try.prog 17 #[v, vf] w fun e w' => ∃ x, e = .returned (.tuple #[x, .int .i64 0]) ∧ OwnI 3 w.heap.size w' x (toI (splE E (L.headD []).length F)) ∧ Below w.heap.size w w' := by
  have RD := Lib.hid (read_yes h hq hg)
  have hp := genQ_perm hq
  have hgr := hg.grp fun q hq => by obtain ⟨p, hp1, rfl⟩ := List.mem_map.1 hq; exact hp.2.2.2.2.1 p hp1
  have hd5 := hp.2.2.2.1
  have h24 := hg.few
  obtain ⟨d, hd⟩ : ∃ d, (L.headD []).length = d := ⟨_, rfl⟩
  rw [hd] at RD hf hb hgr hd5 ⊢
  have IF1 := Lib.hid (fun (bg : Nat) (W : World) (hb : Below w.heap.size w W) (hp : PG d E W bg) => isF_any hf hp vf F (hvf.below hb) hFl)
  have PRD := Lib.hid (fun (bg : Nat) (W : World) (vt : Value) (t : List Int) (hW : Below w.heap.size w W) (hp : PG d E W bg) (ht : t ∈ tabG E d) (hvt : Ints W vt t) => prod_any hf hp vt vf t F hvt (hvf.below hW) (hf.rows t ht) hb)
  have TB := Lib.hid (fun (bg : Nat) (W : World) (hp : PG d E W bg) => table_any' bg W hgr hd5 h24 hp hf.tab)
  rw [hb] at IF1
  have hfw := hf.few
  obtain ⟨af, cf, rfl, -, -, -⟩ := id hvf
  have HSL := Lib.hid (show (splE E d F).length = (tabG E d).length by simp [splE])
  have HST := Lib.hid (fun k (hk : k < (tabG E d).length) => show toI ((splE E d F).take (k + 1)) = toI ((splE E d F).take k) ++ [((prdI E d (tabG E d)[k] F : Nat) : Int)] by
    have hl : k < (splE E d F).length := by rw [HSL.out]; exact hk
    rw [List.take_succ_eq_append_getElem hl, toI_append]
    congr 1
    simp [splE, toI])
  obtain ⟨T, hT⟩ : ∃ T, tabG E d = T := ⟨_, rfl⟩
  rw [hT] at TB PRD HSL HST hfw
  obtain ⟨n, hn⟩ : ∃ n, T.length = n := ⟨_, rfl⟩
  have HN := Lib.hid hn
  rw [hn] at hfw HSL
  clear h hq hg hf hvf hFl hb hgr hd hT hn hp
  go_enter Try.func17, Try.ntmps17
  go_wp2_with (first
    | (go_at_call 21; refine RD.out.mono ?_; rintro e w1 ⟨bg, rfl, hp, hb⟩; have HP := Lib.hid hp; have HB := Lib.hid hb; clear hp hb)
    | (go_at_call 28; refine (IF1.out bg _ HB.out HP.out).mono ?_; rintro e w2 ⟨rfl, hb2⟩; have HP := Lib.hid (HP.out.below hb2); have HB := Lib.hid (HB.out.trans (hb2.mono HB.out.size)); clear hb2 IF1)
    | (go_at_call 22; refine (TB.out bg _ HP.out).mono ?_; rintro e w3 ⟨v2, rfl, ho2, hb2⟩; have HP := Lib.hid (HP.out.below hb2); have HB := Lib.hid (HB.out.trans (hb2.mono HB.out.size)); have HV2 := Lib.hid (show Vecs w3 v2 T from ho2.slr (by rw [HN.out]; omega)); obtain ⟨a2, c2, rfl⟩ := ho2.form; rw [HN.out] at HV2 ⊢; clear ho2 hb2))
  have hs3 := HB.out.size
  go_loopw [8, 28] (fun vo ix wr => ∃ j : Nat, j ≤ n ∧ ix = .int .i64 j ∧ OwnI 3 w3.heap.size wr vo (toI ((splE E d F).take j)) ∧ Below w3.heap.size w3 wr) (fun _ ix _ => n - (intOf ix).toNat)
  case atStart => exact ⟨0, Nat.zero_le _, rfl, OwnI.nil _ _ _, Below.refl _ _⟩
  case round =>
    obtain ⟨j, hj, rfl, ho, hbj⟩ := hrel
    have HO := Lib.hid ho
    have HBJ := Lib.hid hbj
    have hszj := hbj.size
    obtain ⟨ao, no, co, rfl⟩ := own_form ho
    by_cases hjl : j < n
    · have hji : (j : Int) < (n : Int) := by omega
      have hjT : j < T.length := by rw [HN.out]; exact hjl
      obtain ⟨b1, o1, cc, u, e1, hb1, -, hcu, hu⟩ := (HV2.out.below hbj).at j hjT
      obtain rfl : a2 = some ⟨b1, o1, none⟩ := (Value.slice.inj e1).1
      have HT := Lib.hid (HST.out j hjT)
      have P1 := Lib.hid (PRD.out bg wr u T[j] (HB.out.trans (hbj.mono hs3)) (HP.out.below hbj) (List.getElem_mem hjT) hu.ints)
      obtain ⟨t, ht⟩ : ∃ t, T[j] = t := ⟨_, rfl⟩
      rw [ht] at hu HT P1
      obtain ⟨au, cu, rfl⟩ := hu.form
      obtain ⟨tl, htl⟩ : ∃ x, t.length = x := ⟨_, rfl⟩
      rw [htl] at P1 hcu
      obtain ⟨pr, hpr⟩ : ∃ x, prdI E d t F = x := ⟨_, rfl⟩
      rw [hpr] at P1 HT
      have HLT := Lib.hid (show (toI ((splE E d F).take j)).length < 1000000 by rw [toI_length, List.length_take]; omega)
      clear ho hbj e1 hjT ht hu htl hpr
      go_wp2_with (first
        | (go_at_call 29; refine P1.out.mono ?_; rintro e w4 ⟨rfl, hb4⟩; have HB4 := Lib.hid hb4; clear hb4)
        | (at_builtin; refine wpList_app1_at rfl _ _ rfl w3.heap.size _ (toI ((splE E d F).take j)) ((pr : Nat) : Int) rfl ((HO.out.below HB4.out).alloc _) ⟨_, 0, none⟩ 1 rfl (cell_new1 _ _ _) HLT.out (by have := HB4.out.size; simp; omega) ?_; intro v5 w5 ho5 hg5 hl5; have HO5 := Lib.hid ho5; have HB5 := Lib.hid (((HBJ.out.trans (HB4.out.mono hszj)).alloc (by have := HB4.out.size; omega) _).grown hg5 (by have := HB4.out.size; simp; omega) (fun j hj => (HO.out.lt j hj).1)); clear ho5 hg5 hl5))
      go_roundw
      case rel => exact ⟨j + 1, hjl, by go_num, by rw [HT.out]; exact HO5.out, HB5.out⟩
      case measure => simp [intOf]; omega
    · obtain rfl : j = n := by omega
      have hji : ¬ (j : Int) < (j : Int) := by omega
      clear ho hbj
      go_wp2
      go_ret2
      have h0 := HO.out
      rw [List.take_of_length_le (by rw [HSL.out]; exact Nat.le_refl _)] at h0
      exact ⟨_, rfl, OwnI.mono h0 hs3, HB.out.trans (HBJ.out.mono hs3)⟩
end
end Go.Proofs.Ytdackakjcnnofaa
