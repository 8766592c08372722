/- Covers of the program: the walk. -/
import Derived.Test.YtmlhecfhhhebnaaVa
namespace Go.Proofs.Ytmlhecfhhhebnaa
open Go.RowKit Go.Shelf Go.Lib Go.Sort
attribute [local go_sem] Oper.semAt_some

theorem fin_vals (N : Nat) : (List.finRange N).map (fun x => x.val) = List.range N := by
  apply List.ext_getElem
  · simp
  · intro i h1 h2; simp
theorem fin_filter (N : Nat) (p : Nat → Bool) : ((List.finRange N).filter fun x => !(!p x.val)).map (fun x => x.val) = (List.range N).filter p := by
  rw [← fin_vals, List.filter_map]
  congr 1
  apply List.filter_congr
  intro x _
  simp
theorem putRow_ints {N : Nat} [Inhabited (Fin N)] {w : World} {g cap q : Nat} {d : Array (Fin N)} {L : List (Fin N)} {zs : List (Fin N)} (hH : Holds (encF N) w g 0 d) (hg : g < w.heap.size) (hs : (L ++ zs).length = d.size) (hc : L.length ≤ cap) (hl : L.length ≤ 1000) :
    Ints (putRow (encF N) (Sort.ahead w q) g 0 (L ++ zs).toArray) (.slice (some ⟨g, 0, none⟩) L.length cap) (toI (L.map fun x => x.val)) := by
  have hlen : (toI (L.map fun x => x.val)).length = L.length := by rw [toI_length, List.length_map]
  refine ⟨some ⟨g, 0, none⟩, cap, by rw [hlen], by rw [hlen]; omega, by rw [hlen]; exact hc, fun _ => ⟨g, 0, rfl, by rw [size_putRow, heap_ahead]; exact hg, fun i hi => ?_⟩⟩
  have hiL : i < L.length := by rw [hlen] at hi; exact hi
  have hi2 : i < (L ++ zs).toArray.size := by simp; omega
  rw [cell?_putRow (encF N) (Sort.ahead w q) g 0 d (L ++ zs).toArray (holds_ahead _ _ _ _ _ _ hH) (by simpa using hs) i hi2]
  rw [getElem!_pos _ i hi2, toI_getElem]
  simp [encF, List.getElem_append_left hiL]

set_option maxRecDepth 20000 in
set_option maxHeartbeats 1000000 in
theorem delete_any {K n m N : Nat} {W X : List (List Nat)} (bT b6 b7 g1 c1 i g cap : Nat) (w2 w3 : World) (ht : TabIs K n W X w2 bT) (hk : Tk m N W X) (hl : lstB W X = true) (h6 : w2.cell? ⟨b6, 0, none⟩ = some (.pointer (some ⟨bT, 0, none⟩)))
    (h7 : w2.cell? ⟨b7, 0, none⟩ = some (.slice (some ⟨g1, 0, none⟩) 1 c1)) (hg : w2.cell? ⟨g1, 0, none⟩ = some (.int .i64 (i : Nat))) (hi : i < N) (hb : Below w2.heap.size w2 w3)
    (ho : OwnI 3 w2.heap.size w3 (.slice (some ⟨g, 0, none⟩) N cap) (toI (List.range N))) :
    Calls Try.prog 83 #[.slice (some ⟨g, 0, none⟩) N cap, .func (.func 84) #[] #[.pointer (some ⟨b6, 0, none⟩), .pointer (some ⟨b7, 0, none⟩)]] w3 fun e w' =>
      e = .returned (.slice (some ⟨g, 0, none⟩) (covL W X i).length cap) ∧ Ints w' (.slice (some ⟨g, 0, none⟩) (covL W X i).length cap) (toI (covL W X i)) ∧ Below w2.heap.size w2 w' := by
  haveI : Inhabited (Fin N) := ⟨⟨0, hk.pos⟩⟩
  have hN := hk.small
  have hgs := ho.blockEq
  have eg : ∀ args w, (callFunc 84 args).run Try.prog w = .ok (.enter 84 args) w := enters_of Try.func84 (by kernel_rfl) rfl
  have hF : ∀ (wq : World) (x : Fin N), Below w2.heap.size w2 wq → FnGives Try.prog 84 #[.pointer (some ⟨b6, 0, none⟩), .pointer (some ⟨b7, 0, none⟩)] #[encF N x] (.bool (!covB W X i x.val)) wq := fun wq x hq =>
    covF_any bT b6 b7 g1 c1 i x.val wq (ht.below hq) hk hl ((hq.cell (p := ⟨b6, 0, none⟩) (World.block_lt_of_cell? _ _ h6)).trans h6) ((hq.cell (p := ⟨b7, 0, none⟩) (World.block_lt_of_cell? _ _ h7)).trans h7) ((hq.cell (p := ⟨g1, 0, none⟩) (World.block_lt_of_cell? _ _ hg)).trans hg) hi x.isLt
  have hH := holds_fin ho
  have hcap : N ≤ cap := by
    rcases ho.2 with ⟨h, _⟩ | ⟨g', cap', cur, h, _, _, hn, _⟩
    · cases h
    · obtain ⟨_, _, rfl⟩ := Value.slice.inj h
      rw [toI_length, List.length_range] at hn
      exact hn
  have hD := AnyE.slices_DeleteFunc delN (encF N) (fun _ => rfl) (fun x => !covB W X i x.val) 84 #[.pointer (some ⟨b6, 0, none⟩), .pointer (some ⟨b7, 0, none⟩)] eg (⟨0, hk.pos⟩ : Fin N) (fun w => Try.zeroValue3 w) g 0 cap (List.finRange N).toArray w3
    (fun wq x hq => hF wq x (hb.trans (hq.mono hb.size))) (fun q os dk x _ => hF _ x (hb.trans (below_sortWorld (encF N) w3 g 0 q dk os hgs.1 hb.size))) hH (by simp; omega) (by simpa using hcap)
  change Calls Try.prog 83 _ _ _ at hD
  have hfl := fin_filter N (covB W X i)
  have hfe : ((List.finRange N).filter fun x => !(!covB W X i x.val)).length = (covL W X i).length := by
    have := congrArg List.length hfl
    rw [List.length_map] at this
    rw [this]; unfold covL; rw [hk.lw]
  have hle : ((List.finRange N).filter fun x => !(!covB W X i x.val)).length ≤ N := by
    have := List.length_filter_le (fun x : Fin N => !(!covB W X i x.val)) (List.finRange N)
    simpa using this
  rw [List.toList_toArray, List.size_toArray, List.length_finRange] at hD
  refine hD.mono ?_
  rintro e w' ⟨rfl, q, rfl⟩
  refine ⟨by rw [hfe], ?_, ?_⟩
  · have := putRow_ints (q := q) (cap := cap) (L := (List.finRange N).filter fun x => !(!covB W X i x.val)) (zs := List.replicate (N - ((List.finRange N).filter fun x => !(!covB W X i x.val)).length) (⟨0, hk.pos⟩ : Fin N)) hH hgs.2 (by simp only [List.length_append, List.length_replicate, List.size_toArray, List.length_finRange]; omega) (by omega) (by omega)
    rw [hfl, hfe] at this
    unfold covL
    rw [hk.lw]
    unfold covL at this
    rw [hk.lw] at this
    rw [hfe]
    unfold covL
    rw [hk.lw]
    exact this
  · have := hb.trans (below_sortWorld (encF N) w3 g 0 q (((List.finRange N).filter fun x => !(!covB W X i x.val)) ++ List.replicate (N - ((List.finRange N).filter fun x => !(!covB W X i x.val)).length) (⟨0, hk.pos⟩ : Fin N)).toArray #[] hgs.1 hb.size)
    unfold sortWorld at this
    rwa [grow_empty] at this

set_option maxRecDepth 20000 in
set_option maxHeartbeats 1000000 in
theorem Covers_no (K : Nat) (n : Int) (v : Value) (xs : List Int) (w : World) (hK : K < 256) (hx : Ints w v xs) (h : okI K n [xs] = false) :
    Calls Try.prog 54 #[grpI K n, v] w (WordErr w) := by
  have RD := Lib.hid (fun w' v' (ha : Args w' v' [xs]) => read_no K n v' [xs] w' hK ha h)
  have HX := Lib.hid (fun o : Obj => hx.below ((Below.refl _ _).alloc (Nat.le_refl _) o))
  obtain ⟨a, c, rfl, hx1⟩ := hx
  unfold grpI at *
  clear h hx1
  go_enter Try.func54, Try.ntmps54
  go_wp2_with (go_at_call 59; refine (RD.out _ _ (args1 (HX.out _) _ (by simp))).mono ?_; rintro e w1 ⟨rfl, hb1⟩)
  go_ret2
  have hB := below_al2 (Nat.le_refl _) hb1
  exact ⟨rfl, (hB.alloc hB.size _).alloc (by have := hB.size; simp; omega) _⟩

set_option maxRecDepth 20000 in
set_option maxHeartbeats 4000000 in
theorem Covers_yes (K n : Nat) (v : Value) (xs : List Int) (w : World) (hv : validB K n = true) (hx : Ints w v xs) (h : wordB (mirs K n) xs = true) :
    Calls Try.prog 54 #[.agg #[.int .u8 (K : Nat), .int .i64 (n : Nat)], v] w (RowsOut ((covL (wordsG K n) (nextG K n) (ix K n xs)).map fun u => (wordsG K n).getD u []) w) := by
  have RD := Lib.hid (fun w' v' (ha : Args w' v' [xs]) => read_yes K n v' [xs] w' hv ha (by simpa using h))
  have HX := Lib.hid (fun o : Obj => hx.below ((Below.refl _ _).alloc (Nat.le_refl _) o))
  have hil := ix_lt hv h
  have hN : (wordsG K n).length ≤ 120 := (tkG hv).small
  have NB := Lib.hid (fun (bT : Nat) (w' : World) (ht : TabIs K n (wordsG K n) (nextG K n) w' bT) => numbers_any bT w' ht (tkG hv) (pairsG hv))
  have LS := Lib.hid (fun (bT : Nat) (v : Value) (w' : World) (ht : TabIs K n (wordsG K n) (nextG K n) w' bT) (hv' : Ints w' v (toI (covL (wordsG K n) (nextG K n) (ix K n xs)))) => tlist_any bT v (covL (wordsG K n) (nextG K n) (ix K n xs)) w' ht (tkG hv) hv' (fun u hu => List.mem_range.1 (List.mem_filter.1 hu).1) (by have := List.length_filter_le (covB (wordsG K n) (nextG K n) (ix K n xs)) (List.range (wordsG K n).length); unfold covL; rw [List.length_range] at this; omega))
  have DF := Lib.hid (fun (bT b6 b7 g1 c1 g cap : Nat) (w2 w3 : World) (ht : TabIs K n (wordsG K n) (nextG K n) w2 bT) (h6 : w2.cell? ⟨b6, 0, none⟩ = some (.pointer (some ⟨bT, 0, none⟩))) (h7 : w2.cell? ⟨b7, 0, none⟩ = some (.slice (some ⟨g1, 0, none⟩) 1 c1)) (hg : w2.cell? ⟨g1, 0, none⟩ = some (.int .i64 (ix K n xs : Nat))) (hb : Below w2.heap.size w2 w3) (ho : OwnI 3 w2.heap.size w3 (.slice (some ⟨g, 0, none⟩) (wordsG K n).length cap) (toI (List.range (wordsG K n).length))) => delete_any bT b6 b7 g1 c1 (ix K n xs) g cap w2 w3 ht (tkG hv) (lstG hv) h6 h7 hg hil hb ho)
  obtain ⟨L, hL⟩ : ∃ L, covL (wordsG K n) (nextG K n) (ix K n xs) = L := ⟨_, rfl⟩
  rw [hL] at LS DF ⊢
  obtain ⟨a, c, rfl, hx1⟩ := hx
  clear h hx1 hv hL hil
  go_enter Try.func54, Try.ntmps54
  go_upto_region 4 with (go_at_call 59; refine (RD.out _ _ (args1 (HX.out _) _ (by simp))).mono ?_; rintro e w1 ⟨bT, v1, rfl, ht1, ho1, hb1⟩; obtain ⟨g1, c1, rfl, hc1⟩ := own_one ho1)
  have hB1 := below_al2 (Nat.le_refl _) hb1
  have hA : Below w1.heap.size w1 ((w1.alloc (.cells #[.pointer (some ⟨bT, 0, none⟩)] 71)).alloc (.cells #[.slice (some ⟨g1, 0, none⟩) 1 c1] 24)) := ((Below.refl _ _).alloc (Nat.le_refl _) _).alloc (by simp) _
  have ht2 := ht1.below hA
  have c62 : ((w1.alloc (.cells #[.pointer (some ⟨bT, 0, none⟩)] 71)).alloc (.cells #[.slice (some ⟨g1, 0, none⟩) 1 c1] 24)).cell? ⟨w1.heap.size, 0, none⟩ = some (.pointer (some ⟨bT, 0, none⟩)) := by simp
  have c72 : ((w1.alloc (.cells #[.pointer (some ⟨bT, 0, none⟩)] 71)).alloc (.cells #[.slice (some ⟨g1, 0, none⟩) 1 c1] 24)).cell? ⟨w1.heap.size + 1, 0, none⟩ = some (.slice (some ⟨g1, 0, none⟩) 1 c1) := by
    have := Held.made (w := w1.alloc (.cells #[.pointer (some ⟨bT, 0, none⟩)] 71)) (l := [.slice (some ⟨g1, 0, none⟩) 1 c1]) (t := 24) (g := w1.heap.size + 1) (by simp)
    exact this.at (i := 0) rfl
  have cg2 := (hA.cell (p := ⟨g1, 0, none⟩) (World.block_lt_of_cell? _ _ hc1)).trans hc1
  have hs2 : w1.heap.size + 2 = ((w1.alloc (.cells #[.pointer (some ⟨bT, 0, none⟩)] 71)).alloc (.cells #[.slice (some ⟨g1, 0, none⟩) 1 c1] 24)).heap.size := by simp
  obtain ⟨w2, hw2⟩ : ∃ w2, (w1.alloc (.cells #[.pointer (some ⟨bT, 0, none⟩)] 71)).alloc (.cells #[.slice (some ⟨g1, 0, none⟩) 1 c1] 24) = w2 := ⟨_, rfl⟩
  rw [hw2] at hA ht2 c62 c72 cg2 hs2 ⊢
  have HB2 := Lib.hid (hB1.trans (hA.mono hB1.size))
  have HT2 := Lib.hid ht2
  have H72 := Lib.hid c72
  have HG2 := Lib.hid cg2
  have h6lt : w1.heap.size < w2.heap.size := by omega
  clear hw2 hA ht2 c72 cg2 hs2 ht1 ho1 hb1 hc1 hB1
  go_region_with (first
    | (go_at_call 82; refine (LS.out _ _ w4 (HT2.out.below hb4) hi4).mono ?_; rintro e w5 ⟨v5, rfl, hr5, hb5⟩)
    | (go_at_call 83; refine (DF.out bT w1.heap.size (w1.heap.size + 1) g1 c1 g3 c3 w2 w3 HT2.out c62 H72.out HG2.out hb3 ho3).mono ?_; rintro e w4 ⟨rfl, hi4, hb4⟩; have c64 := (hb4.cell (p := ⟨w1.heap.size, 0, none⟩) h6lt).trans c62)
    | (go_at_call 80; refine (NB.out bT _ (HT2.out.drewN 1)).mono ?_; rintro e w3 ⟨g3, c3, rfl, ho3, hb3'⟩; have hb3 : Below w2.heap.size w2 w3 := ((Below.refl _ w2).drew).trans hb3'; have c63 := (hb3.cell (p := ⟨w1.heap.size, 0, none⟩) h6lt).trans c62))
  all_goals
    go_wp2_with fail
    go_ret2
    exact ⟨_, rfl, hr5.base (by have := HB2.out.size; have := hb4.size; omega), HB2.out.trans ((hb4.trans (hb5.mono hb4.size)).mono HB2.out.size)⟩
end Go.Proofs.Ytmlhecfhhhebnaa
