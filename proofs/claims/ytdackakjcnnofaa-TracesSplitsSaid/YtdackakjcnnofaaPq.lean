/- The program's product of functions; Product. -/
import Derived.Test.YtdackakjcnnofaaPp
namespace Go.Proofs.Ytdackakjcnnofaa
open Go.RowKit
attribute [local go_sem] Oper.semAt_some

theorem getD_at' {α : Type} {l : List α} {i : Nat} (h : i < l.length) (z : α) : l.getD i z = l[i] := by
  rw [List.getD_eq_getElem?_getD, List.getElem?_eq_getElem h]; rfl
theorem tmod_nat (a b : Nat) : (a : Int).tmod b = ((a % b : Nat) : Int) := rfl
theorem getD_lt {q : Nat} {l : List Nat} (hq : 0 < q) (h : ∀ x ∈ l, x < q) (k : Nat) : l.getD k 0 < q := by
  rw [List.getD_eq_getElem?_getD]
  cases hk : l[k]? with
  | none => simpa using hq
  | some x => exact h x (List.mem_of_getElem? hk)
theorem sumP_le {q : Nat} {sz bk f h : List Nat} (hq : 0 < q) (hq2 : q < 62) (hh : ∀ x ∈ h, x < q) : ∀ k, sumP q sz bk f h k ≤ 4000 * k
  | 0 => by simp [sumP]
  | k + 1 => by
    have ih := sumP_le (sz := sz) (bk := bk) (f := f) hq hq2 hh k
    have h1 : sz.getD k 0 * f.getD k 0 % q < q := Nat.mod_lt _ hq
    have h2 := getD_lt hq hh (bk.getD k 0)
    have h3 : (sz.getD k 0 * f.getD k 0 % q) * h.getD (bk.getD k 0) 0 ≤ 62 * 62 := Nat.mul_le_mul (by omega) (by omega)
    unfold sumP
    omega
set_option maxRecDepth 100000 in
set_option maxHeartbeats 2000000 in
theorem product_any (bg q nE : Nat) (vf vh : Value) (cl : List (List Nat)) (bk F G : List Nat) (w : World) (h : GD w bg q nE cl bk) (hq : 1 < q) (hq2 : q < 62) (hvf : Ints w vf (toI F)) (hvh : Ints w vh (toI G)) (hF : F.length = cl.length) (hG : G.length = cl.length) (hFq : ∀ x ∈ F, x < q) (hGq : ∀ x ∈ G, x < q)
    (hb : bk.length = cl.length) (hbl : ∀ b ∈ bk, b < cl.length) (hcl : ∀ l ∈ cl, l.length ≤ 24) (hc24 : cl.length ≤ 24) (hc0 : 0 < cl.length) (hn : nE ≤ 24) (hok : okOver q nE = true) :
    Calls Try.prog 29 #[.pointer (some ⟨bg, 0, none⟩), vf, vh] w fun e w' => e = .returned (.int .i64 (prdP q nE (cl.map List.length) bk F G : Nat)) ∧ Below w.heap.size w w' := by
  have HP := Lib.hid h.p
  have MD := Lib.hid (fun (n : Int) (W : World) (hW : Below w.heap.size w W) => mod_any bg q n W (h.p.below hW) (by omega) hq2)
  have OV := Lib.hid (fun (W : World) (hW : Below w.heap.size w W) => over_any bg q nE W (h.p.below hW) (by omega) hq2 (by omega) hok)
  obtain ⟨S, H, vC, hcc, hrC⟩ := h.c
  obtain ⟨aC, cC, rfl⟩ := hrC.form
  obtain ⟨-, gC, rfl, hgC⟩ := rows_fix hrC hc0
  obtain ⟨HB, vB, hcb, hoB⟩ := h.b
  obtain ⟨aE, cE, hce⟩ := h.e
  obtain ⟨hbgl, hcq⟩ := h.p
  have hIB := hoB.ints (by rw [toI_length]; omega)
  obtain ⟨aB, cB, rfl⟩ := OwnI.form hoB
  have HRC := Lib.hid hgC
  have HIB := Lib.hid hIB
  have HVF := Lib.hid hvf
  have HVH := Lib.hid hvh
  have HFQ := Lib.hid hFq
  have HGQ := Lib.hid hGq
  have HBL := Lib.hid hbl
  have HCLL := Lib.hid hcl
  have HSB := Lib.hid (fun k => sumP_le (sz := cl.map List.length) (bk := bk) (f := F) (by omega) hq2 hGq k)
  have hov := over_lt (q := q) (n := nE) (by omega) hok
  obtain ⟨af, cf, rfl, -, -, -⟩ := id hvf
  obtain ⟨ah, ch, rfl, -, -, -⟩ := id hvh
  rw [toI_length] at hcb
  obtain ⟨m, hm⟩ : ∃ m, cl.length = m := ⟨_, rfl⟩
  have HM := Lib.hid hm
  rw [hm] at hcc hF hG hb hc24 hc0 HBL
  have HFL := Lib.hid hF
  have HGL := Lib.hid hG
  have HBKL := Lib.hid hb
  rw [hb] at hcb
  rw [toI_length, hF] at HVF ⊢
  rw [toI_length, hG] at HVH ⊢
  rw [toI_length, hb] at HIB
  have HCELL := Lib.hid (fun (W : World) (hW : Below w.heap.size w W) => show W.cell? ⟨bg, 3, none⟩ = some (.slice (some ⟨gC, 0, none⟩) m cC) ∧ W.cell? ⟨bg, 5, none⟩ = some (.slice aB m cB) ∧ W.cell? ⟨bg, 6, none⟩ = some (.int .i64 (q : Nat)) ∧ W.cell? ⟨bg, 1, none⟩ = some (.slice aE nE cE) from
    ⟨(hW.cell (p := ⟨bg, 3, none⟩) hbgl).trans hcc, (hW.cell (p := ⟨bg, 5, none⟩) hbgl).trans hcb, (hW.cell (p := ⟨bg, 6, none⟩) hbgl).trans hcq, (hW.cell (p := ⟨bg, 1, none⟩) hbgl).trans hce⟩)
  have hq0 : ¬ (q : Int) = 0 := by omega
  have hq0' : ((q : Int) == 0) = false := by simp; omega
  have hqn : ¬ q = 0 := by omega
  have hc3 := hcc
  clear h hvf hvh hF hG hFq hGq hb hbl hcl hgC hrC hcb hce hcq hIB hoB hm hcc hok
  go_enter Try.func29, Try.ntmps29
  go_wp2
  go_loopw [7, 15] (fun s ix wr => ∃ k : Nat, k ≤ m ∧ ix = .int .i64 k ∧ s = .int .i64 (sumP q (cl.map List.length) bk F G k : Nat) ∧ Below w.heap.size w wr) (fun _ ix _ => m - (intOf ix).toNat)
  case atStart => exact ⟨0, Nat.zero_le _, rfl, rfl, Below.refl _ _⟩
  case round =>
    obtain ⟨k, hk, rfl, rfl, hb0⟩ := hrel
    have HBA := Lib.hid hb0
    have hle := hb0.size
    have hsb := HSB.out k
    obtain ⟨hc3', hc5', hc6', hc1'⟩ := HCELL.out wr hb0
    clear hb0
    by_cases hlt : k < m
    · have hki : (k : Int) < (m : Int) := by omega
      have hk0 : (0 : Int) ≤ (k : Int) := by omega
      have hkc : k < cl.length := by rw [HM.out]; exact hlt
      have hkb : k < bk.length := by rw [HBKL.out]; exact hlt
      have hkF : k < F.length := by rw [HFL.out]; exact hlt
      obtain ⟨aU, cU, hrow⟩ := HRC.out k hkc
      have hcr := (hrow wr HBA.out).1
      have hzl := HCLL.out _ (List.getElem_mem hkc)
      have hol := HBL.out _ (List.getElem_mem hkb)
      obtain ⟨bB, oB, cB', eB, -, hcB⟩ := Ints.atN (HIB.out.below HBA.out) hkb
      obtain ⟨rfl, -, -⟩ := Value.slice.inj eB
      have hoG : bk[k] < G.length := by rw [HGL.out]; exact hol
      obtain ⟨bF, oF, cF', eF, -, hcF⟩ := Ints.atN (HVF.out.below HBA.out) hkF
      obtain ⟨rfl, -, -⟩ := Value.slice.inj eF
      obtain ⟨bG, oG, cG', eG, -, hcG⟩ := Ints.atN (HVH.out.below HBA.out) hoG
      obtain ⟨rfl, -, -⟩ := Value.slice.inj eG
      have hf62 := HFQ.out _ (List.getElem_mem hkF)
      have hg62 := HGQ.out _ (List.getElem_mem hoG)
      have HS := Lib.hid (show sumP q (cl.map List.length) bk F G (k + 1) = sumP q (cl.map List.length) bk F G k + ((cl[k]).length * F[k] % q) * G[bk[k]] by
        conv => lhs; unfold sumP
        rw [getD_at' (l := cl.map List.length) (by rw [List.length_map]; exact hkc), getD_at' hkF, getD_at' hkb, getD_at' hoG, List.getElem_map])
      obtain ⟨y, hy⟩ : ∃ y, (cl[k]).length = y := ⟨_, rfl⟩
      obtain ⟨f1, hf1⟩ : ∃ x, F[k] = x := ⟨_, rfl⟩
      obtain ⟨g1, hg1⟩ : ∃ x, G[bk[k]] = x := ⟨_, rfl⟩
      rw [hy] at hcr hzl HS
      rw [hf1] at hcF hf62 HS
      rw [hg1] at hcG hg62 HS
      obtain ⟨o, ho⟩ : ∃ o, bk[k] = o := ⟨_, rfl⟩
      rw [ho] at hcB hcG hol
      obtain ⟨s, hs⟩ : ∃ s, sumP q (cl.map List.length) bk F G k = s := ⟨_, rfl⟩
      rw [hs] at HS hsb ⊢
      have hyf : y * f1 ≤ 24 * 62 := Nat.mul_le_mul (by omega) (by omega)
      have hyfc : (y : Int) * (f1 : Int) = ((y * f1 : Nat) : Int) := by rw [Int.natCast_mul]
      have ht : ((y : Int) * (f1 : Int)).tmod q = ((y * f1 % q : Nat) : Int) := by rw [hyfc]; rfl
      have htl : y * f1 % q < q := Nat.mod_lt _ (by omega)
      obtain ⟨t, htt⟩ : ∃ t, y * f1 % q = t := ⟨_, rfl⟩
      rw [htt] at HS ht htl
      have htg : t * g1 ≤ 62 * 62 := Nat.mul_le_mul (by omega) (by omega)
      have htgc : (t : Int) * (g1 : Int) = ((t * g1 : Nat) : Int) := by rw [Int.natCast_mul]
      have w1 : IntKind.i64.wrap ((y : Int) * (f1 : Int)) = (y : Int) * (f1 : Int) := IntWalk.i64_in _ (by rw [hyfc]; omega)
      have w2 : IntKind.i64.wrap ((t : Int) * (g1 : Int)) = (t : Int) * (g1 : Int) := IntWalk.i64_in _ (by rw [htgc]; omega)
      have w3 : IntKind.i64.wrap ((s : Int) + (t : Int) * (g1 : Int)) = (s : Int) + (t : Int) * (g1 : Int) := IntWalk.i64_in _ (by rw [htgc]; omega)
      have HSZ := Lib.hid (show ((sumP q (cl.map List.length) bk F G (k + 1) : Nat) : Int) = (s : Int) + (t : Int) * (g1 : Int) by rw [HS.out, htgc]; omega)
      have i3 : (o : Int) < (m : Int) := by omega
      have j3 : (0 : Int) ≤ (o : Int) := by omega
      clear hkc hkb hkF hrow eB hoG eF eG hy hf1 hg1 ho hs hyfc htgc htt
      go_wp2_with fail
      go_quiet (fail)
      go_wp2
      go_roundw
      case rel => exact ⟨k + 1, hlt, by go_num, by rw [HSZ.out], below_drewN HBA.out _⟩
      case measure => simp [intOf]; omega
    · obtain rfl : m = k := by omega
      have hki : ¬ (m : Int) < (m : Int) := by omega
      obtain ⟨s, hs⟩ : ∃ s, sumP q (cl.map List.length) bk F G m = s := ⟨_, rfl⟩
      have HRS := Lib.hid (show prdP q nE (cl.map List.length) bk F G = (s % q) * overN q nE % q by unfold prdP; rw [List.length_map, HM.out, hs])
      rw [hs] at hsb ⊢
      obtain ⟨ov, hov'⟩ : ∃ x, overN q nE = x := ⟨_, rfl⟩
      rw [hov'] at OV HRS hov
      have hA : (s : Int) % (q : Int) = ((s % q : Nat) : Int) := rfl
      have hAl : s % q < q := Nat.mod_lt _ (by omega)
      have M1 := Lib.hid (fun (p : BelW wr) => show Calls Try.prog 50 #[.pointer (some ⟨bg, 0, none⟩), .int .i64 (s : Nat)] p.v fun e w' => e = .returned (.int .i64 ((s % q : Nat) : Int)) ∧ Below p.v.heap.size p.v w' from MD.out (s : Int) p.v (HBA.out.trans (p.h.mono hle)))
      obtain ⟨a, ha⟩ : ∃ a, s % q = a := ⟨_, rfl⟩
      rw [ha] at M1 HRS hAl
      have hao : a * ov ≤ 62 * 62 := Nat.mul_le_mul (by omega) (by omega)
      have haoc : (a : Int) * (ov : Int) = ((a * ov : Nat) : Int) := by rw [Int.natCast_mul]
      have w1 : IntKind.i64.wrap ((a : Int) * (ov : Int)) = (a : Int) * (ov : Int) := IntWalk.i64_in _ (by rw [haoc]; omega)
      have M2 := Lib.hid (fun (p : BelW wr) => show Calls Try.prog 50 #[.pointer (some ⟨bg, 0, none⟩), .int .i64 ((a : Int) * (ov : Int))] p.v fun e w' => e = .returned (.int .i64 ((a * ov % q : Nat) : Int)) ∧ Below p.v.heap.size p.v w' from by
        have := MD.out ((a : Int) * (ov : Int)) p.v (HBA.out.trans (p.h.mono hle))
        have e : (a : Int) * (ov : Int) % (q : Int) = ((a * ov % q : Nat) : Int) := by rw [haoc, ← Int.natCast_emod]
        rw [e] at this
        exact this)
      have O1 := Lib.hid (fun (p : BelW wr) => OV.out p.v (HBA.out.trans (p.h.mono hle)))
      have d0 : ∀ p : BelW wr, p.v.cell? ⟨bg, 1, none⟩ = some (.slice aE nE cE) := fun p => (HCELL.out p.v (HBA.out.trans (p.h.mono hle))).2.2.2
      have HMX := Lib.hid mixed
      clear hs hov' hA ha haoc hc3' hc5' hc6' hc1'
      go_upto_region 7 with (fail)
      refine wp_region_bel HMX.out (by kernel_rfl) ?_
      repeat (first
        | go_big_quiet_step ((first | (go_at_call 51; (with_reducible refine Calls.bel_of (O1.out _)); clear O1) | (go_at_call 50; (with_reducible refine Calls.bel_of (M1.out _)); clear M1) | (go_at_call 50; (with_reducible refine Calls.bel_of (M2.out _)); clear M2)))
        | quiet_step ((first | (go_at_call 51; (with_reducible refine Calls.bel_of (O1.out _)); clear O1) | (go_at_call 50; (with_reducible refine Calls.bel_of (M1.out _)); clear M1) | (go_at_call 50; (with_reducible refine Calls.bel_of (M2.out _)); clear M2))))
      refine wpQuiet_nil ?_
      intro wV hw'
      have HBV := Lib.hid (BelW.of hw')
      clear hw' d0
      go_wp2
      go_ret
      exact ⟨ret_int (by rw [HRS.out, Int.natCast_emod, Int.natCast_mul]), HBA.out.trans (HBV.out.mono hle)⟩
end Go.Proofs.Ytdackakjcnnofaa
