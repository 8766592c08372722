/- Z4 of the seat's texts, in this order. -/
import Derived.Test.YtdackakjcnnofaaGreatB2

/- The reference's determinant. -/
namespace Go.Proofs.YtdackakjcnnofaaGreat
open Go.RowKit
attribute [local go_sem] Oper.semAt_some

theorem matR_succ (m : List (List Int)) (x k : Nat) : matR m x (k + 1) = matR m x k ++ [(m.getD k []).set k ((m.getD k []).getD k 0 - (x : Int))] := by
  unfold matR
  rw [List.range_succ, List.map_append]; rfl
theorem getD_at {α : Type} {l : List α} {i : Nat} (h : i < l.length) (z : α) : l.getD i z = l[i] := by
  rw [List.getD_eq_getElem?_getD, List.getElem?_eq_getElem h]; rfl
theorem matR_ok {m : List (List Int)} {n x : Nat} (hm : m.length = n) (hr : ∀ r ∈ m, r.length = n) (hb : ∀ r ∈ m, ∀ y ∈ r, 0 ≤ y ∧ y ≤ 1000) (hx : x < 62) : MatOk n (matR m x n) := by
  refine ⟨by simp [matR], fun r hr' => ?_⟩
  obtain ⟨d, hd, rfl⟩ := List.mem_map.1 hr'
  have hdn := List.mem_range.1 hd
  have hdl : d < m.length := by omega
  rw [getD_at hdl]
  have h1 := hr _ (List.getElem_mem hdl)
  have h2 := hb _ (List.getElem_mem hdl)
  have hdr : d < (m[d]).length := by omega
  rw [getD_at hdr]
  refine ⟨by rw [List.length_set]; exact h1, fun y hy => ?_⟩
  rcases List.mem_or_eq_of_mem_set hy with hy | rfl
  · have := h2 y hy; omega
  · have := h2 _ (List.getElem_mem hdr); omega
theorem map_snd {M : List (Nat × List Int)} {i b : Nat} {xs : List Int} (h : M[i]? = some (b, xs)) : (M.map Prod.snd).getD i [] = xs := by
  rw [List.getD_eq_getElem?_getD, List.getElem?_map, h]; rfl
theorem mat_get {M : List (Nat × List Int)} {i m : Nat} (hl : (M.map Prod.snd).length = m) (hi : i < m) : ∃ b xs, M[i]? = some (b, xs) ∧ ∃ h : i < (M.map Prod.snd).length, (M.map Prod.snd)[i] = xs := by
  have hil : i < M.length := by rw [List.length_map] at hl; omega
  exact ⟨(M[i]).1, (M[i]).2, List.getElem?_eq_getElem hil, by rw [List.length_map]; exact hil, by simp⟩
theorem set_same {α : Type} {l : List α} {i : Nat} {x : α} (h : l[i]? = some x) : l.set i x = l := by
  refine List.ext_getElem? fun j => ?_
  by_cases e : i = j
  · subst e
    rw [List.getElem?_set_self (List.getElem?_eq_some_iff.1 h).1, h]
  · rw [List.getElem?_set_ne e]
theorem map_set' (M : List (Nat × List Int)) (i b : Nat) (xs : List Int) : (M.set i (b, xs)).map Prod.snd = (M.map Prod.snd).set i xs := by rw [List.map_set]
set_option maxRecDepth 100000 in
set_option maxHeartbeats 4000000 in
theorem RSing_any {d : Nat} {E : List (List Nat)} (gv : Value) (c x : Nat) (w : World) (h : Grp d E) (h24 : E.length ≤ 24) (hg : RGI d E w gv) (hc : c < (repsN E E.length).length) (hx : x < 62) (hq1 : 0 < primeN E d) (hq2 : primeN E d < 62) :
    Calls Tryz.prog 48 #[gv, .int .i64 (c : Nat), .int .i64 (x : Nat)] w fun e w' => e = .returned (.bool (singR (primeN E d) (repsN E E.length).length (constL E c) x)) ∧ Below w.heap.size w w' := by
  have hg0 := hg
  obtain ⟨gL, gT, gB, oB, gC, gO, oO, cL, cT, cB, cC, cO, rfl, -⟩ := hg.open h
  have CN := Lib.hid (show ∀ (k : Nat) (W : World), Below w.heap.size w W → Calls Tryz.prog 87 #[.agg #[.slice (some ⟨gL, 0, none⟩) E.length cL, .slice (some ⟨gT, 0, none⟩) E.length cT, .slice (some ⟨gB, oB, none⟩) E.length cB, .slice (some ⟨gC, 0, none⟩) (repsN E E.length).length cC, .slice (some ⟨gO, oO, none⟩) E.length cO, .int .i64 (primeN E d : Nat)], .int .i64 (c : Nat), .int .i64 (k : Nat)] W fun e w' => ∃ v', e = .returned v' ∧ OwnI 3 W.heap.size w' v' (toI (cntsR E c k)) ∧ Below W.heap.size W w' from
    fun k W hb => RCounts2_any _ c k W h h24 (hg0.below hb) hc)
  have OV := Lib.hid (show ∀ (a b : Int) (W : World), (-10000000 ≤ a ∧ a ≤ 10000000) → (-10000000 ≤ b ∧ b ≤ 10000000) → Calls Tryz.prog 62 #[.agg #[.slice (some ⟨gL, 0, none⟩) E.length cL, .slice (some ⟨gT, 0, none⟩) E.length cT, .slice (some ⟨gB, oB, none⟩) E.length cB, .slice (some ⟨gC, 0, none⟩) (repsN E E.length).length cC, .slice (some ⟨gO, oO, none⟩) E.length cO, .int .i64 (primeN E d : Nat)], .int .i64 a, .int .i64 b] W fun e w' => e = .returned (.int .i64 (ovR (primeN E d) a b : Nat)) ∧ Below W.heap.size W w' from
    fun a b W ha hb => ROver_any _ _ _ _ _ (primeN E d) a b W hq1 hq2 ha hb)
  have HKE := Lib.hid (fun k (hk : k < (repsN E E.length).length) => h.cnts_eq (c := c) hk)
  have hml := reps_len (E := E) E.length
  have HKL := Lib.hid (constL_length (E := E) c)
  have HKR := Lib.hid (constL_row (E := E) c)
  have HKB := Lib.hid (constL_le (E := E) (c := c) h24)
  have hm0 : 0 < (repsN E E.length).length := by omega
  obtain ⟨K, hK⟩ : ∃ K, constL E c = K := ⟨_, rfl⟩
  rw [hK] at HKE HKL HKR HKB ⊢
  obtain ⟨q, hq⟩ : ∃ q, primeN E d = q := ⟨_, rfl⟩
  rw [hq] at CN OV hq1 hq2 ⊢
  obtain ⟨n, hn⟩ : ∃ n, E.length = n := ⟨_, rfl⟩
  have HN := Lib.hid hn
  obtain ⟨m, hmm⟩ : ∃ m, (repsN E E.length).length = m := ⟨_, rfl⟩
  rw [hmm, hn] at CN OV
  rw [hmm] at HKE HKL HKR hml hm0 hc
  rw [hn] at hml h24
  rw [hmm, hn]
  have HOK0 := Lib.hid (matR_ok (n := m) (x := x) HKL.out (fun r hr => HKR.out r hr) HKB.out hx)
  have hq0 : ¬ (q : Int) = 0 := by omega
  have hq0' : ((q : Int) == 0) = false := by simp; omega
  have HQ1 := Lib.hid hq1
  clear h hg hg0 hK hq hn hmm hq1
  unfold rgV
  go_enter Tryz.func48, Tryz.ntmps48
  have HX0 := Lib.hid (Held.new w 29 [.slice (some ⟨gL, 0, none⟩) n cL, .slice (some ⟨gT, 0, none⟩) n cT, .slice (some ⟨gB, oB, none⟩) n cB, .slice (some ⟨gC, 0, none⟩) m cC, .slice (some ⟨gO, oO, none⟩) n cO, .int .i64 (q : Nat)])
  have HB0 := Lib.hid (show Below w.heap.size w (w.alloc (.cells #[.slice (some ⟨gL, 0, none⟩) n cL, .slice (some ⟨gT, 0, none⟩) n cT, .slice (some ⟨gB, oB, none⟩) n cB, .slice (some ⟨gC, 0, none⟩) m cC, .slice (some ⟨gO, oO, none⟩) n cO, .int .i64 (q : Nat)] 29)) from (Below.refl _ _).alloc (Nat.le_refl _) _)
  go_wp2_with fail
  obtain ⟨bx, hbx⟩ : ∃ x, w.heap.size = x := ⟨_, rfl⟩
  obtain ⟨W0, hW0⟩ : ∃ x, w.alloc (.cells #[.slice (some ⟨gL, 0, none⟩) n cL, .slice (some ⟨gT, 0, none⟩) n cT, .slice (some ⟨gB, oB, none⟩) n cB, .slice (some ⟨gC, 0, none⟩) m cC, .slice (some ⟨gO, oO, none⟩) n cO, .int .i64 (q : Nat)] 29) = x := ⟨_, rfl⟩
  have HBXW := Lib.hid hbx
  rw [hbx] at HX0 ⊢
  have HX1 := Lib.hid (show Held W0 bx 29 [.slice (some ⟨gL, 0, none⟩) n cL, .slice (some ⟨gT, 0, none⟩) n cT, .slice (some ⟨gB, oB, none⟩) n cB, .slice (some ⟨gC, 0, none⟩) m cC, .slice (some ⟨gO, oO, none⟩) n cO, .int .i64 (q : Nat)] by rw [← hW0]; exact HX0.out)
  rw [hW0] at HB0 ⊢
  clear hW0 HX0 hbx
  obtain ⟨H, hH⟩ : ∃ H, W0.heap.size = H := ⟨_, rfl⟩
  have HHW := Lib.hid hH
  clear hH
  go_loopw [8, 21] (fun vt ix wr => ∃ (k : Nat) (M : List (Nat × List Int)), k ≤ m ∧ ix = .int .i64 k ∧ MatI m H wr vt M ∧ M.map Prod.snd = matR K x k ∧ Below W0.heap.size W0 wr) (fun _ ix _ => m - (intOf ix).toNat)
  case atStart => exact ⟨0, [], Nat.zero_le _, rfl, MatI.nil _ _ _, rfl, Below.refl _ _⟩
  case round =>
    obtain ⟨k, M, hk, rfl, hm, hmap, hb0⟩ := hrel
    obtain ⟨wA, rfl⟩ : ∃ x, x = wr := ⟨_, rfl⟩
    have HM := Lib.hid hm
    have HMP := Lib.hid hmap
    have HBA := Lib.hid hb0
    have HB := Lib.hid (HB0.out.trans (hb0.mono HB0.out.size))
    have hle := hb0.size
    have HML := Lib.hid (show M.length = k by have := congrArg List.length hmap; simpa [matR] using this)
    obtain ⟨aT, cTt, e⟩ := hm.form
    rw [HML.out] at e
    subst e
    clear hm hmap hb0
    by_cases hlt : k < m
    · have hki : (k : Int) < (m : Int) := by omega
      have HE := Lib.hid (HKE.out k hlt)
      have hkK : k < K.length := by rw [HKL.out]; exact hlt
      have hrl := HKR.out _ (List.getElem_mem hkK)
      have hrb := HKB.out _ (List.getElem_mem hkK)
      have HMS := Lib.hid (matR_succ K x k)
      rw [getD_at hkK] at HE HMS
      obtain ⟨R, hR⟩ : ∃ R, K[k] = R := ⟨_, rfl⟩
      rw [hR] at HE HMS hrl hrb
      have hkR : k < R.length := by rw [hrl]; exact hlt
      have hyb := hrb _ (List.getElem_mem hkR)
      have HRL := Lib.hid hrl
      have HMS2 := Lib.hid (show matR K x (k + 1) = matR K x k ++ [R.set k (R[k] - (x : Int))] by rw [HMS.out, getD_at hkR])
      obtain ⟨y, hy⟩ : ∃ y, R[k] = y := ⟨_, rfl⟩
      have HY := Lib.hid (show ∀ h : k < R.length, R[k]'h = y from fun _ => hy)
      rw [hy] at HMS2 hyb
      have HKRL := Lib.hid hkR
      have hyw : IntKind.i64.wrap (y - (x : Int)) = y - (x : Int) := IntWalk.i64_in _ (by omega)
      have HHH := HHW.out
      clear hR hrb hrl hy HMS hkK hkR
      have hxA := HX1.out.below HBA.out HX1.out.lt
      have hx0 := hxA.at (i := 0) rfl
      have hx1 := hxA.at (i := 1) rfl
      have hx2 := hxA.at (i := 2) rfl
      have hx3 := hxA.at (i := 3) rfl
      have hx4 := hxA.at (i := 4) rfl
      have hx5 := hxA.at (i := 5) rfl
      clear hxA
      go_wp2_with (first
        | ((with_reducible refine is_load 29 ?_); refine wpl_load_rg (by rfl) _ (by rfl) bx [.slice (some ⟨gL, 0, none⟩) n cL, .slice (some ⟨gT, 0, none⟩) n cT, .slice (some ⟨gB, oB, none⟩) n cB, .slice (some ⟨gC, 0, none⟩) m cC, .slice (some ⟨gO, oO, none⟩) n cO, .int .i64 (q : Nat)] rfl (by rfl) (HX1.out.below HBA.out HX1.out.lt) ?_)
        | (go_at_call 87; refine (CN.out k _ HB.out).mono ?_; rintro e w2 ⟨v', rfl, ho, hb2⟩; rw [HE.out] at ho; obtain ⟨b, cap, hv, hb1, hb1s⟩ := OwnI.block ho (by rw [HRL.out]; omega); subst hv; have hcy := OwnI.cellN ho rfl HKRL.out; rw [HY.out] at hcy; have hfy := OwnI.free ho k rfl; have HO := Lib.hid ho; have HB2 := Lib.hid hb2; have HOS := Lib.hid (OwnI.stored ho k (y - (x : Int))); rw [HRL.out] at HOS HO ⊢; have HBL := Lib.hid hb1; have HB7 := Lib.hid (hb2.setCell (p := ⟨b, k, none⟩) hb1 (.int .i64 (y - (x : Int)))); clear ho hb2 hb1 hb1s)
        | (at_builtin; refine wpl_appG (t := 27) (R := RowB m) (B := H) rfl _ _ 22 rfl Tryz.underlying22 infoR (RowB.keep ne_ii) RowB.one rfl ((HM.out.below HB7.out).1.below ((Below.refl _ _).alloc (Nat.le_refl _) _) (RowB.keep ne_mi)) rfl (by have h0 := Held.new (w2.setCell ⟨b, k, none⟩ (.int .i64 (y - (x : Int)))) 27 [.slice (some ⟨b, 0, none⟩) m cap]; have e0 : (w2.setCell ⟨b, k, none⟩ (.int .i64 (y - (x : Int)))).heap.size = w2.heap.size := (by simp [World.setCell]); rw [e0] at h0; exact h0) (l := (b, R.set k (y - (x : Int)))) ⟨cap, rfl, by rw [List.length_set]; exact HRL.out, OwnI.mono (OwnI.below HOS.out ((Below.refl _ _).alloc (Nat.le_refl _) _)) (Nat.zero_le _)⟩ (by rw [HML.out]; omega) (by have := (HB7.out.alloc HB7.out.size (.cells #[.slice (some ⟨b, 0, none⟩) m cap] 27)).size; omega) ?_; intro v8 w8 ho8 hg8 hl8; have HO8 := Lib.hid ho8; have HB8 := Lib.hid ((HB7.out.alloc HB7.out.size (.cells #[.slice (some ⟨b, 0, none⟩) m cap] 27))); have HG8 := Lib.hid hg8; clear ho8 hg8 hl8))
      go_roundw
      case rel =>
        refine ⟨k + 1, _, hlt, by go_num, ⟨HO8.out, Inj.snoc HM.out.2.1 fun i c' ys hi e => ?_, fun i b' ys hi => ?_⟩, ?_, ?_⟩
        · have := (HM.out.block hi).1
          have := HBL.out
          omega
        · by_cases hil : i < M.length
          · rw [List.getElem?_append_left hil] at hi
            exact HM.out.2.2 i b' ys hi
          · rw [List.getElem?_append_right (by omega)] at hi
            have h0 : i - M.length = 0 := by
              have := (List.getElem?_eq_some_iff.1 hi).1
              simp at this; omega
            rw [h0] at hi
            simp at hi
            have := HBL.out
            omega
        · rw [List.map_append, HMP.out, HMS2.out]; rfl
        · refine (HBA.out.trans (HB8.out.mono hle)).grown HG8.out (by have := HB8.out.size; omega) fun j hj => ?_
          have := (HM.out.1.own hj).1
          omega
      case measure => simp [intOf]; omega
    · obtain rfl : k = m := by omega
      have hki : ¬ (k : Int) < (k : Int) := by omega
      have HHH := HHW.out
      obtain ⟨b0, xs0, hM0, -⟩ := mat_get (by rw [List.length_map]; exact HML.out) hm0
      obtain ⟨gM, cM, cap0, e0, hgH, hgS, -⟩ := HM.out.row hM0
      rw [HML.out] at e0
      obtain ⟨rfl, -, -⟩ := Value.slice.inj e0
      have HGH := Lib.hid hgH
      have HGS := Lib.hid hgS
      have HOKM := Lib.hid (show MatOk k (M.map Prod.snd) by rw [HMP.out]; exact HOK0.out)
      have HSG := Lib.hid (show singR q k K x = singF q k (k - 0) 0 (M.map Prod.snd) by rw [HMP.out]; rfl)
      clear e0 hM0 hgH hgS HMP
      go_wp2_with fail
      go_loopw [41] (fun ix wr => ∃ (j : Nat) (M : List (Nat × List Int)), j ≤ k ∧ ix = .int .i64 j ∧ MatI k H wr (.slice (some ⟨gM, 0, none⟩) k cTt) M ∧ MatOk k (M.map Prod.snd) ∧ singR q k K x = singF q k (k - j) j (M.map Prod.snd) ∧ Below W0.heap.size W0 wr) (fun ix _ => k - (intOf ix).toNat)
      case atStart => exact ⟨0, M, Nat.zero_le _, rfl, HM.out, HOKM.out, HSG.out, HBA.out⟩
      case round =>
        clear HM HOKM HSG HBA HB hle HML M
        obtain ⟨j, M, hj, rfl, hm, hok, hsg, hb0⟩ := hrel
        obtain ⟨wK, rfl⟩ : ∃ x, x = wr := ⟨_, rfl⟩
        have HM := Lib.hid hm
        have HOK := Lib.hid hok
        have HSG := Lib.hid hsg
        have HBA := Lib.hid hb0
        have HB := Lib.hid (HB0.out.trans (hb0.mono HB0.out.size))
        have hle := hb0.size
        have HML := Lib.hid (show (M.map Prod.snd).length = k from hok.1)
        clear hm hok hsg hb0
        by_cases hlt : j < k
        · have hji : (j : Int) < (k : Int) := by omega
          have hj0 : (0 : Int) ≤ (j : Int) := by omega
          go_wp2_with fail
          go_loopw [12] (fun ax wq => ∃ a : Nat, j ≤ a ∧ a ≤ k ∧ ax = .int .i64 a ∧ (∀ i (hi : i < (M.map Prod.snd).length), j ≤ i → i < a → (((M.map Prod.snd)[i]).getD j 0).tmod q = 0) ∧ Below wK.heap.size wK wq) (fun ax _ => k - (intOf ax).toNat)
          case atStart => exact ⟨j, Nat.le_refl _, hj, rfl, fun i hi h1 h2 => by omega, Below.refl _ _⟩
          case round =>
            obtain ⟨a, hja, hak, rfl, hz, hbq⟩ := hrel
            have HZ := Lib.hid hz
            have HBQ := Lib.hid hbq
            have hleq := hbq.size
            have hx5 := (HX1.out.below (HBA.out.trans (hbq.mono hle)) HX1.out.lt).at (i := 5) rfl
            clear hz hbq
            by_cases hal : a < k
            · have hai : (a : Int) < (k : Int) := by omega
              have ha0 : (0 : Int) ≤ (a : Int) := by omega
              obtain ⟨b1, xs, hM1, hil, hie⟩ := mat_get HML.out hal
              have hM2 := HM.out.below HBQ.out
              obtain ⟨g1, c1, ca, e1, -, -, -, hca, hfa, hxl, -, -⟩ := hM2.row hM1
              obtain rfl : gM = g1 := by have := (Value.slice.inj e1).1; simpa using this
              have hjx : j < xs.length := by rw [hxl]; exact hlt
              have hce := hM2.ent hM1 hjx
              have hxb := (HOK.out.2 xs (by rw [← hie]; exact List.getElem_mem hil)).2 _ (List.getElem_mem hjx)
              have HGD := Lib.hid (getD_at hjx 0)
              have HIE := Lib.hid hie
              obtain ⟨y, hy⟩ : ∃ y, xs[j] = y := ⟨_, rfl⟩
              rw [hy] at hce hxb HGD
              have hts := tmod_small y q HQ1.out hq2
              obtain ⟨t, ht⟩ : ∃ t, y.tmod q = t := ⟨_, rfl⟩
              have HT := Lib.hid ht
              rw [ht] at hts
              clear e1 hjx hie hy
              by_cases ht0 : t = 0
              · subst ht0
                go_wp2_with fail
                go_quiet (fail)
                go_wp2
                go_roundw
                case rel =>
                  refine ⟨a + 1, by omega, hal, by go_num, fun i hi h1 h2 => ?_, below_drewN HBQ.out _⟩
                  by_cases e : i = a
                  · subst e
                    rw [HIE.out, HGD.out]; exact HT.out
                  · exact HZ.out i hi h1 (by omega)
                case measure => simp [intOf]; omega
              · have htb : (t == 0) = false := by simpa using ht0
                have HPV := Lib.hid (show pvR q j (M.map Prod.snd) = a from pvR_at hja (by rw [HML.out]; exact hak) HZ.out fun hh => by rw [HIE.out, HGD.out, HT.out]; exact ht0)
                have hak2 : ¬ (a : Int) = (k : Int) := by omega
                have hakb : ((a : Int) == (k : Int)) = false := by simp; omega
                go_wp2_with fail
                go_quiet (fail)
                go_upto_region 16 with (fail)
                obtain ⟨wS, hwS⟩ : ∃ x, wr.drewN nq = x := ⟨_, rfl⟩
                have HBS := Lib.hid (show Below wK.heap.size wK wS from by rw [← hwS]; exact below_drewN HBQ.out _)
                rw [hwS]
                clear hwS hca hfa hce hM2 hx5
                obtain ⟨b2, ys, hMj, hjl, hje⟩ := mat_get HML.out hlt
                have hMS := HM.out.below HBS.out
                obtain ⟨g1, c1', ca1, e1, -, -, -, hca, hfa, -, -, -⟩ := hMS.row hM1
                obtain rfl : gM = g1 := by have := (Value.slice.inj e1).1; simpa using this
                obtain ⟨g2, c2', cb1, e2, -, -, -, hcb, -, hyl, hoy, -⟩ := hMS.row hMj
                obtain rfl : gM = g2 := by have := (Value.slice.inj e2).1; simpa using this
                have HSW := Lib.hid (hMS.swap hM1 hMj hca hcb)
                have s1 := hMS.1.stored a (u := .slice (some ⟨b2, 0, none⟩) k cb1) (x := (b2, ys)) ⟨cb1, rfl, hyl, hoy⟩ (RowB.keep ne_ii)
                have hMl : M.length = k := by have := HML.out; rwa [List.length_map] at this
                obtain ⟨g3, c3, u3, e3, -, -, -, hc3, -⟩ := s1.at j (by rw [List.length_set, hMl]; exact hlt)
                obtain rfl : gM = g3 := by have := (Value.slice.inj e3).1; simpa using this
                have hf3 := s1.free j
                have HXL := Lib.hid (show xs.length = k from (HOK.out.2 xs (by rw [← HIE.out]; exact List.getElem_mem hil)).1)
                have HAJ := Lib.hid (show singR q k K x = singF q k (k - (j + 1)) (j + 1) (elTo q j xs (swpR (M.map Prod.snd) a j) (k - (j + 1))) by
                  rw [HSG.out]
                  obtain ⟨f, hf⟩ : ∃ f, k - j = f + 1 := ⟨k - j - 1, by omega⟩
                  rw [hf, singF_no HPV.out (by omega), map_snd hM1]
                  rw [show k - (j + 1) = f by omega])
                have HSM := Lib.hid (show ((M.set a (b2, ys)).set j (b1, xs)).map Prod.snd = swpR (M.map Prod.snd) a j by
                  unfold swpR
                  rw [map_snd hM1, map_snd hMj, List.map_set, List.map_set])
                have HOK1 := Lib.hid (show MatOk k (swpR (M.map Prod.snd) a j) by
                  unfold swpR
                  rw [map_snd hM1, map_snd hMj]
                  exact (HOK.out.set (HOK.out.2 ys (by rw [← hje]; exact List.getElem_mem hjl))).set (HOK.out.2 xs (by rw [← HIE.out]; exact List.getElem_mem hil)))
                have HTOP := Lib.hid (show ((M.set a (b2, ys)).set j (b1, xs))[j]? = some (b1, xs) from List.getElem?_set_self (by rw [List.length_set, hMl]; exact hlt))
                have HBT := Lib.hid (show Below W0.heap.size W0 ((wS.setCell ⟨gM, a, none⟩ (.slice (some ⟨b2, 0, none⟩) k cb1)).setCell ⟨gM, j, none⟩ (.slice (some ⟨b1, 0, none⟩) k ca1)) from ((HBA.out.trans (HBS.out.mono hle)).setCell (p := ⟨gM, a, none⟩) (by have := HGH.out; show W0.heap.size ≤ gM; omega) _).setCell (p := ⟨gM, j, none⟩) (by have := HGH.out; show W0.heap.size ≤ gM; omega) _)
                clear e1 e2 e3 s1 hMS hyl hoy hjl hje hM1 hMj hMl
                obtain ⟨M1, hM1⟩ : ∃ M1, (M.set a (b2, ys)).set j (b1, xs) = M1 := ⟨_, rfl⟩
                obtain ⟨T1, hT1⟩ : ∃ T1, swpR (M.map Prod.snd) a j = T1 := ⟨_, rfl⟩
                rw [hM1] at HSW HSM HTOP
                rw [hT1] at HAJ HSM HOK1
                clear hM1 hT1
                go_upto_region 21 with (fail)
                obtain ⟨wT, hwT⟩ : ∃ x, (wS.setCell ⟨gM, a, none⟩ (.slice (some ⟨b2, 0, none⟩) k cb1)).setCell ⟨gM, j, none⟩ (.slice (some ⟨b1, 0, none⟩) k ca1) = x := ⟨_, rfl⟩
                rw [hwT] at HSW HBT ⊢
                have hleT := HBT.out.size
                clear hwT hca hfa hcb hc3 hf3 HBS HBQ HZ hleq hle
                go_wp2_with fail
                go_loopw [14] (fun ix wq => ∃ (t : Nat) (M2 : List (Nat × List Int)), j + 1 + t ≤ k ∧ ix = .int .i64 ((j + 1 + t : Nat) : Int) ∧ MatI k H wq (.slice (some ⟨gM, 0, none⟩) k cTt) M2 ∧ M2.map Prod.snd = elTo q j xs T1 t ∧ M2[j]? = some (b1, xs) ∧ Below W0.heap.size W0 wq) (fun ix _ => k - (intOf ix).toNat)
                case atStart => exact ⟨0, M1, by omega, by rw [Nat.add_zero]; go_num, HSW.out, HSM.out, HTOP.out, HBT.out⟩
                case round =>
                  obtain ⟨t2, M2, htk, rfl, hm2, hmap2, htop2, hbq2⟩ := hrel
                  obtain ⟨wI, rfl⟩ : ∃ x, x = wr := ⟨_, rfl⟩
                  have HM2 := Lib.hid hm2
                  have HMP2 := Lib.hid hmap2
                  have HTP2 := Lib.hid htop2
                  have HBI := Lib.hid hbq2
                  have HBIW := Lib.hid (HB0.out.trans (hbq2.mono HB0.out.size))
                  have hleI := hbq2.size
                  have HOKI := Lib.hid (show MatOk k (M2.map Prod.snd) by rw [hmap2]; exact elTo_ok HQ1.out hq2 HXL.out (by omega) HOK1.out t2 (by omega))
                  have HML2 := Lib.hid (show (M2.map Prod.snd).length = k from HOKI.out.1)
                  clear hm2 hmap2 htop2 hbq2
                  obtain ⟨i, hi⟩ : ∃ i, j + 1 + t2 = i := ⟨_, rfl⟩
                  have HI := Lib.hid hi
                  rw [hi] at htk ⊢
                  have hji2 : j < i := by omega
                  clear hi
                  by_cases hik : i < k
                  · have hii : (i : Int) < (k : Int) := by omega
                    have hi0 : (0 : Int) ≤ (i : Int) := by omega
                    obtain ⟨b3, zs, hM3, hzl, hze⟩ := mat_get HML2.out hik
                    have hzok := HOKI.out.2 zs (by rw [← hze]; exact List.getElem_mem hzl)
                    have HZL := Lib.hid hzok.1
                    have HZOK := Lib.hid hzok.2
                    have HM3 := Lib.hid hM3
                    have hjz : j < zs.length := by rw [hzok.1]; omega
                    have hjx : j < xs.length := by rw [HXL.out]; exact hlt
                    have hxok := (HOKI.out.2 xs (List.mem_of_getElem? (by rw [List.getElem?_map, HTP2.out]; rfl))).2
                    have HXOK := Lib.hid hxok
                    obtain ⟨g4, c4, cc, e4, -, -, -, hcc, -, -, -, -⟩ := HM2.out.row hM3
                    obtain rfl : gM = g4 := by have := (Value.slice.inj e4).1; simpa using this
                    have hcz := HM2.out.ent hM3 hjz
                    have hcx := HM2.out.ent HTP2.out hjx
                    have hzb := hzok.2 _ (List.getElem_mem hjz)
                    have hxb' := hxok _ (List.getElem_mem hjx)
                    have HEL := Lib.hid (show elTo q j xs T1 (t2 + 1) = (M2.map Prod.snd).set i (elR q j (ovR q (zs[j]) (xs[j])) xs zs) by
                      unfold elTo el1
                      rw [← HMP2.out, HI.out, map_snd hM3, getD_at hjz, getD_at hjx])
                    obtain ⟨z, hz⟩ : ∃ z, zs[j] = z := ⟨_, rfl⟩
                    obtain ⟨y2, hy2⟩ : ∃ y, xs[j] = y := ⟨_, rfl⟩
                    rw [hz] at hcz hzb HEL
                    rw [hy2] at hcx hxb' HEL
                    have hflt := ovR_lt HQ1.out z y2
                    have O1 := Lib.hid (fun (p : BelW wI) => OV.out z y2 p.v (by omega) (by omega))
                    have hxI := HX1.out.below HBI.out HX1.out.lt
                    have l0 := HM2.out.block hM3
                    have l1 := HM2.out.block HTP2.out
                    have d0 : ∀ p : BelW wI, p.v.cell? ⟨bx, 0, none⟩ = some (.slice (some ⟨gL, 0, none⟩) n cL) := fun p => BelW.cell hxI.lt (hxI.at (i := 0) rfl) p
                    have d1 : ∀ p : BelW wI, p.v.cell? ⟨bx, 1, none⟩ = some (.slice (some ⟨gT, 0, none⟩) n cT) := fun p => BelW.cell hxI.lt (hxI.at (i := 1) rfl) p
                    have d2 : ∀ p : BelW wI, p.v.cell? ⟨bx, 2, none⟩ = some (.slice (some ⟨gB, oB, none⟩) n cB) := fun p => BelW.cell hxI.lt (hxI.at (i := 2) rfl) p
                    have d3 : ∀ p : BelW wI, p.v.cell? ⟨bx, 3, none⟩ = some (.slice (some ⟨gC, 0, none⟩) k cC) := fun p => BelW.cell hxI.lt (hxI.at (i := 3) rfl) p
                    have d4 : ∀ p : BelW wI, p.v.cell? ⟨bx, 4, none⟩ = some (.slice (some ⟨gO, oO, none⟩) n cO) := fun p => BelW.cell hxI.lt (hxI.at (i := 4) rfl) p
                    have d5 : ∀ p : BelW wI, p.v.cell? ⟨bx, 5, none⟩ = some (.int .i64 (q : Nat)) := fun p => BelW.cell hxI.lt (hxI.at (i := 5) rfl) p
                    have d6 : ∀ p : BelW wI, p.v.cell? ⟨gM, i, none⟩ = some (.slice (some ⟨b3, 0, none⟩) k cc) := fun p => BelW.cell (a := ⟨gM, i, none⟩) (HM2.out.1.own rfl).2.1 hcc p
                    have d7 : ∀ p : BelW wI, p.v.cell? ⟨b3, j, none⟩ = some (.int .i64 z) := fun p => BelW.cell (a := ⟨b3, j, none⟩) l0.1 hcz p
                    have d8 : ∀ p : BelW wI, p.v.cell? ⟨b1, j, none⟩ = some (.int .i64 y2) := fun p => BelW.cell (a := ⟨b1, j, none⟩) l1.1 hcx p
                    obtain ⟨f, hf⟩ : ∃ f, ovR q z y2 = f := ⟨_, rfl⟩
                    rw [hf] at O1 HEL hflt
                    have HMX := Lib.hid mixed
                    clear hM3 hzl hze hzok hjz hjx hxok e4 hcc hcz hcx hzb hxb' hz hy2 hf hxI l0 l1
                    go_upto_region 24 with (fail)
                    refine wp_region_bel HMX.out (by kernel_rfl) ?_
                    repeat (first
                      | go_big_quiet_step ((go_at_call 62; (with_reducible refine Calls.bel_of (O1.out _))))
                      | quiet_step ((go_at_call 62; (with_reducible refine Calls.bel_of (O1.out _)))))
                    refine wpQuiet_nil ?_
                    intro wV hw'
                    have HBV := Lib.hid (BelW.of hw')
                    clear hw' d0 d1 d2 d3 d4 d5 d6 d7 d8 O1
                    have HM4 := Lib.hid (HM2.out.below HBV.out)
                    have HB4 := Lib.hid (HBI.out.trans (HBV.out.mono hleI))
                    have hle4 := HB4.out.size
                    clear HBV
                    go_wp2_with fail
                    go_loopw [16] (fun jx wq => ∃ y : Nat, j ≤ y ∧ y ≤ k ∧ jx = .int .i64 y ∧ MatI k H wq (.slice (some ⟨gM, 0, none⟩) k cTt) (M2.set i (b3, elrTo q j f xs zs y)) ∧ Below W0.heap.size W0 wq) (fun jx _ => k - (intOf jx).toNat)
                    case atStart => exact ⟨j, Nat.le_refl _, hj, rfl, by rw [elrTo_start (by rw [HZL.out]; exact hj), set_same HM3.out]; exact HM4.out, HB4.out⟩
                    case round =>
                      obtain ⟨y, hjy, hyk, rfl, hm5, hb5⟩ := hrel
                      have HM5 := Lib.hid hm5
                      have HB5 := Lib.hid hb5
                      have hle5 := hb5.size
                      clear hm5 hb5
                      by_cases hyl : y < k
                      · have hyi : (y : Int) < (k : Int) := by omega
                        have hy0 : (0 : Int) ≤ (y : Int) := by omega
                        have hyz : y < zs.length := by rw [HZL.out]; exact hyl
                        have hyx : y < xs.length := by rw [HXL.out]; exact hyl
                        have hxz : xs.length = zs.length := by rw [HXL.out, HZL.out]
                        have hjz : j ≤ zs.length := by rw [HZL.out]; exact hj
                        have hil2 : i < M2.length := by have := HML2.out; rw [List.length_map] at this; omega
                        have hMi : (M2.set i (b3, elrTo q j f xs zs y))[i]? = some (b3, elrTo q j f xs zs y) := List.getElem?_set_self hil2
                        have hMj : (M2.set i (b3, elrTo q j f xs zs y))[j]? = some (b1, xs) := by rw [List.getElem?_set_ne (by omega)]; exact HTP2.out
                        have hRl := elrTo_length (q := q) (f := f) hxz hjz y
                        have hcz := HM5.out.ent hMi (j := y) (by rw [hRl]; exact hyz)
                        rw [elrTo_at hxz hjz hyz] at hcz
                        have hcx := HM5.out.ent hMj hyx
                        have hfz := HM5.out.free hMi y
                        obtain ⟨g5, c5, cc2, e5, -, -, -, hcc, -, -, -, -⟩ := HM5.out.row hMi
                        obtain rfl : gM = g5 := by have := (Value.slice.inj e5).1; simpa using this
                        have hx5 := (HX1.out.below HB5.out HX1.out.lt).at (i := 5) rfl
                        have hzb := HZOK.out _ (List.getElem_mem hyz)
                        have hxb := HXOK.out _ (List.getElem_mem hyx)
                        have HPUT := Lib.hid (show MatI k H (wr.drew.setCell ⟨b3, y, none⟩ (.int .i64 ((zs[y] - (f : Int) * xs[y]).tmod q))) (.slice (some ⟨gM, 0, none⟩) k cTt) (M2.set i (b3, elrTo q j f xs zs (y + 1))) from by
                          have h0 := (HM5.out.below ((Below.refl _ _).drew)).put hMi y ((zs[y] - (f : Int) * xs[y]).tmod q)
                          rw [List.set_set, elrTo_set hxz hjy hyz hyx] at h0
                          exact h0)
                        have HBPUT := Lib.hid (show Below W0.heap.size W0 (wr.drew.setCell ⟨b3, y, none⟩ (.int .i64 ((zs[y] - (f : Int) * xs[y]).tmod q))) from HB5.out.drew.setCell (p := ⟨b3, y, none⟩) (by have := HM5.out.2.2 i b3 _ hMi; have := HHW.out; show W0.heap.size ≤ b3; omega) _)
                        obtain ⟨z1, hz1⟩ : ∃ z, zs[y] = z := ⟨_, rfl⟩
                        obtain ⟨x1, hx1⟩ : ∃ z, xs[y] = z := ⟨_, rfl⟩
                        rw [hz1] at hcz hzb
                        rw [hx1] at hcx hxb
                        rw [hz1, hx1] at HPUT HBPUT
                        have hfx : -124000 ≤ (f : Int) * x1 ∧ (f : Int) * x1 ≤ 124000 := by
                          constructor
                          · have h1 : (f : Int) * (-2000) ≤ (f : Int) * x1 := Int.mul_le_mul_of_nonneg_left hxb.1 (by omega)
                            omega
                          · have h1 : (f : Int) * x1 ≤ (f : Int) * 2000 := Int.mul_le_mul_of_nonneg_left hxb.2 (by omega)
                            omega
                        have w1 : IntKind.i64.wrap ((f : Int) * x1) = (f : Int) * x1 := IntWalk.i64_in _ (by omega)
                        have w2 : IntKind.i64.wrap (z1 - (f : Int) * x1) = z1 - (f : Int) * x1 := IntWalk.i64_in _ (by omega)
                        clear hMi hMj hRl e5 hz1 hx1 hzb hxb hyz hyx hxz hjz hil2
                        have hqn : ¬ q = 0 := by omega
                        go_upto_region 28 with (fail)
                        go_still_tail 22, (by kernel_rfl)
                        go_wp2
                        go_roundw
                        case rel => exact ⟨y + 1, by omega, hyl, by go_num, HPUT.out, HBPUT.out⟩
                        case measure => simp [intOf]; omega
                      · obtain rfl : y = k := by omega
                        have hyi : ¬ (y : Int) < (y : Int) := by omega
                        have HEE := Lib.hid (show elrTo q j f xs zs y = elR q j f xs zs by
                          have e1 : zs.length = y := HZL.out
                          have h1 := elrTo_end (q := q) (k := j) (f := f) (row := xs) (r := zs) (by rw [HXL.out, HZL.out]) (by rw [HZL.out]; exact hj)
                          rw [e1] at h1
                          exact h1)
                        go_wp2
                        go_roundw
                        case rel =>
                          refine ⟨t2 + 1, _, by have := HI.out; omega, ?_, HM5.out, ?_, ?_, HB5.out⟩
                          · rw [show j + 1 + (t2 + 1) = i + 1 by have := HI.out; omega]; go_num
                          · rw [map_set', HEL.out, HEE.out]
                          · rw [List.getElem?_set_ne (by omega)]; exact HTP2.out
                        case measure => simp [intOf]; omega
                  · obtain rfl : i = k := by omega
                    have hii : ¬ (i : Int) < (i : Int) := by omega
                    have HTE := Lib.hid (show t2 = i - (j + 1) by have := HI.out; omega)
                    have HSN := Lib.hid (show singR q i K x = singF q i (i - (j + 1)) (j + 1) (M2.map Prod.snd) by rw [HAJ.out, HMP2.out, HTE.out])
                    go_wp2
                    go_roundw
                    case rel => exact ⟨j + 1, M2, hlt, by go_num, HM2.out, HOKI.out, HSN.out, HBI.out⟩
                    case measure => simp [intOf]; omega
            · obtain rfl : a = k := by omega
              have hai : ¬ (a : Int) < (a : Int) := by omega
              have haib : decide ((a : Int) < (a : Int)) = false := by simp
              have HPV := Lib.hid (show pvR q j (M.map Prod.snd) = a from pvR_at hja (by rw [HML.out]; exact hak) HZ.out fun hh => by rw [HML.out] at hh; omega)
              have HR := Lib.hid (show singR q a K x = true by
                rw [HSG.out]
                obtain ⟨f, hf⟩ : ∃ f, a - j = f + 1 := ⟨a - j - 1, by omega⟩
                rw [hf]
                exact singF_yes HPV.out)
              go_wp2_with fail
              go_quiet (fail)
              go_wp2
              go_ret
              exact ⟨ret_bool HR.out.symm, HB.out.trans ((below_drewN HBQ.out _).mono (by have := HB0.out.size; omega))⟩
        · obtain rfl : j = k := by omega
          have hji : ¬ (j : Int) < (j : Int) := by omega
          have HR := Lib.hid (show singR q j K x = false by rw [HSG.out, Nat.sub_self]; rfl)
          go_wp2
          go_ret
          exact ⟨ret_bool HR.out.symm, HB.out⟩
end Go.Proofs.YtdackakjcnnofaaGreat
