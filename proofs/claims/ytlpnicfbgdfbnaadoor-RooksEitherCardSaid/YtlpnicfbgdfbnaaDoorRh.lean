/- ref.permutations, ref.Hits. -/
import Derived.Test.YtlpnicfbgdfbnaaDoorPr
namespace Go.Proofs.YtlpnicfbgdfbnaaDoor
open Go.RowKit Go.Shelf
attribute [local go_sem] Oper.semAt_some

theorem permuted_any (C n : Nat) (hn : n ≤ 6) : ∀ (d taken : Nat) (begun : List Nat) (vb : Value) (w : World), taken < 64 → begun.length + d = n → pop (diffS (2 ^ n - 1) taken) = d → OwnI 3 C w vb (toI begun) → C ≤ w.heap.size →
    Calls Tryd.prog 71 #[.int .i64 (n : Nat), .int .i64 (taken : Nat), vb] w (PdPost C ((perms d (diffS (2 ^ n - 1) taken)).map (begun ++ ·)) w)
  | 0, taken, begun, vb, w, _, hl, _, ho, _ => by
    have := permuted_leaf C n taken begun vb w (by omega) ho
    have e : (perms 0 (diffS (2 ^ n - 1) taken)).map (begun ++ ·) = [begun] := by simp [perms]
    rw [e]; exact this
  | d + 1, taken, begun, vb, w, ht, hl, hp, ho, hC =>
    permuted_node C n taken d begun vb w hn ht (by omega) (by omega) ho hC (fun taken' begun' vb' w' h1 h2 h3 h4 h5 => permuted_any C n hn d taken' begun' vb' w' h1 (by omega) h3 h4 h5) hp

set_option maxHeartbeats 400000 in
theorem permutations_any (n : Nat) (hn : n ≤ 6) (w : World) :
    Calls Tryd.prog 53 #[.int .i64 (n : Nat)] w fun e w' => ∃ v', e = .returned v' ∧ RowsI w.heap.size w.heap.size w' v' (allP n) ∧ Below w.heap.size w w' := by
  obtain ⟨p1, p2, p3⟩ := all_pop n (by omega)
  have e0 : diffS (2 ^ n - 1) 0 = 2 ^ n - 1 := by simp [diffS]
  have C := permuted_any w.heap.size n hn n 0 [] (.slice none 0 0) w (by decide) (by simp) (by rw [e0]; exact p3) (OwnI.nil _ _ _) (Nat.le_refl _)
  rw [e0] at C
  have e1 : (perms n (2 ^ n - 1)).map ([] ++ ·) = allP n := by simp [allP]
  rw [e1] at C
  have C := Lib.hid C
  clear p1 p2 p3 e0 e1
  go_enter Tryd.func53, Tryd.ntmps53
  go_wp2_with (go_at_call 71; refine C.out.mono ?_; rintro e w1 ⟨v', rfl, hr, hb⟩)
  go_ret
  exact ⟨_, rfl, hr, hb⟩

theorem hitsFrom_snoc (bs s : List Nat) (ls : List (List Nat)) (k : Nat) (hk : k < ls.length) : hitsFrom bs s (ls.take (k + 1)) = inc (hitsFrom bs s (ls.take k)) (hitN bs ls[k]) := by
  unfold hitsFrom
  rw [take_succ' ls k hk, List.foldl_append]; rfl
theorem hitsFrom_zero_le (bs : List Nat) (m : Nat) (ls : List (List Nat)) (hl : ∀ l ∈ ls, l.length ≤ bs.length) (hn : ls.length ≤ 720) : (hitsFrom bs (List.replicate (bs.length + 1) 0) ls).getD m 0 ≤ 720 := by
  have := hitsFrom_le bs m ls (List.replicate (bs.length + 1) 0) (fun l h => by have := hitN_le bs l; have := hl l h; simp; omega)
  have e : (List.replicate (bs.length + 1) 0).getD m 0 = 0 := by simp [List.getD, List.getElem?_replicate]; split <;> rfl
  omega

set_option maxRecDepth 20000 in
set_option maxHeartbeats 2000000 in
theorem refHits_any (v : Value) (bs : List Nat) (w : World) (hv : Ints w v (toI bs)) (h : IsBoard bs) :
    Calls Tryd.prog 25 #[v] w fun e w' => ∃ v', e = .returned v' ∧ OwnI 3 w.heap.size w' v' (toI (hitsL bs)) ∧ Below w.heap.size w w' := by
  have h6 := h.le
  have w1 : IntKind.i64.wrap ((bs.length : Int) + 1) = (bs.length : Int) + 1 := IntWalk.i64_in _ (by omega)
  have hmk := make_ints1 bs.length (by omega)
  have H := Lib.hid h
  have HV := Lib.hid hv
  have HL := Lib.hid (show ∀ l ∈ allP bs.length, l.length = bs.length from perms_len _ _)
  have H6 := Lib.hid (show ∀ l ∈ allP bs.length, ∀ c ∈ l, c < 6 from fun l hl => perms_lt _ _ l (all_pop bs.length (by omega)).2.1 hl)
  have HN := Lib.hid (allP_length bs.length (by omega))
  obtain ⟨a, c, rfl, hlen, hcl2, hc⟩ := hv.openN
  clear hv h hc
  obtain ⟨W1, hW1⟩ : ∃ W1, w.alloc (.cells ((toI (List.replicate (bs.length + 1) 0)).map (Value.int .i64)).toArray 3) = W1 := ⟨_, rfl⟩
  have hb1 : Below w.heap.size w W1 := by rw [← hW1]; exact (Below.refl _ _).alloc (Nat.le_refl _) _
  have ho1 : OwnI 3 w.heap.size W1 (.slice (some ⟨w.heap.size, 0, none⟩) (bs.length + 1) (bs.length + 1)) (toI (List.replicate (bs.length + 1) 0)) := by rw [← hW1]; exact own_zeros w _ (Nat.le_refl _) (by unfold maxLen; omega)
  have hs1 : W1.heap.size = w.heap.size + 1 := by rw [← hW1]; simp
  have C := Lib.hid (permutations_any bs.length h6 W1)
  go_enter Tryd.func25, Tryd.ntmps25
  go_wp2_with (go_at_call 53; refine C.out.mono ?_; rintro e w2 ⟨v2, rfl, hr2, hb2⟩; obtain ⟨a2, c2, rfl⟩ := hr2.form)
  have ho2 := ho1.below hb2
  have hb3 : Below w.heap.size w w2 := hb1.trans (hb2.mono (by omega))
  have hs2 := hb2.size
  obtain ⟨P, hP⟩ : ∃ P, allP bs.length = P := ⟨_, rfl⟩
  have hfin := Lib.hid (show hitsL bs = hitsFrom bs (List.replicate (bs.length + 1) 0) P from by rw [← hP]; rfl)
  rw [hP] at HL H6 HN hr2 ⊢
  have hPl := HN.out
  clear hP C hW1
  go_loopw [14] (fun ix wr => ∃ k : Nat, k ≤ P.length ∧ ix = .int .i64 k ∧ RowsI W1.heap.size W1.heap.size wr (.slice a2 P.length c2) P ∧ Below w.heap.size w wr ∧ OwnI 3 w.heap.size wr (.slice (some ⟨w.heap.size, 0, none⟩) (bs.length + 1) (bs.length + 1)) (toI (hitsFrom bs (List.replicate (bs.length + 1) 0) (P.take k)))) (fun i _ => P.length - (intOf i).toNat)
  case atStart => exact ⟨0, Nat.zero_le _, rfl, hr2, hb3, ho2⟩
  case round =>
    obtain ⟨k, hk, rfl, hr, hb, ho⟩ := hrel
    clear hr2 ho2 hb3 hb2 ho1 hb1
    by_cases hlt : k < P.length
    · obtain ⟨g2, cap2, u, e2, hg2, hcu, hu⟩ := hr.at k hlt
      obtain ⟨rfl, _, rfl⟩ := Value.slice.inj e2
      have hlk := HL.out _ (List.getElem_mem hlt)
      have h6k := H6.out _ (List.getElem_mem hlt)
      have CH := Lib.hid (refhits_any (.slice a bs.length c) u bs P[k] wr (HV.out.below hb) (hu.ints (by rw [toI_length]; omega)) H.out.lt h6k (by omega) h6)
      have hle : hitN bs P[k] ≤ bs.length := by rw [← hlk]; exact hitN_le _ _
      have hsn := Lib.hid (hitsFrom_snoc bs (List.replicate (bs.length + 1) 0) P k hlt)
      have hcl := hitsFrom_length bs (P.take k) (List.replicate (bs.length + 1) 0)
      rw [List.length_replicate] at hcl
      have hbd := hitsFrom_zero_le bs (hitN bs P[k]) (P.take k) (fun l hl => Nat.le_of_eq (HL.out l (List.mem_of_mem_take hl))) (by rw [List.length_take]; omega)
      obtain ⟨hit, hhit⟩ : ∃ x, hitN bs P[k] = x := ⟨_, rfl⟩
      obtain ⟨cu, hcu0⟩ : ∃ x, hitsFrom bs (List.replicate (bs.length + 1) 0) (P.take k) = x := ⟨_, rfl⟩
      rw [hhit] at hle CH hsn hbd
      rw [hcu0] at hsn hcl hbd ho
      have cG := ho.cellN hit (by omega)
      have fG := ho.frozenN hit
      obtain ⟨x, hx⟩ : ∃ x, cu[hit]'(by omega) = x := ⟨_, rfl⟩
      rw [getD_at (by omega), hx] at hbd
      rw [hx] at cG
      have wx : IntKind.i64.wrap ((x : Int) + 1) = (x : Int) + 1 := IntWalk.i64_in _ (by omega)
      have hhl : (hit : Int) < (bs.length : Int) + 1 := by omega
      have HR := Lib.hid hr
      have HO := Lib.hid ho
      have HX := Lib.hid (show cu.getD hit 0 = x by rw [getD_at (by omega)]; exact hx)
      have HB := Lib.hid hb
      clear hr ho hx hb hcu0 hhit hlk h6k
      obtain ⟨au, lu, hfu⟩ := hu.form
      rw [hfu] at hcu CH
      clear hu hfu
      go_wp2_with (go_at_call 54; refine CH.out.mono ?_; rintro e w3 ⟨rfl, rfl⟩)
      go_roundw
      case rel =>
        refine ⟨k + 1, by omega, by go_num, HR.out.kept (IsBufferSet _ _ _ _) (.inr ?_) (fun j hj => by cases hj; omega), HB.out.setCell (by exact Nat.le_refl _) _, ?_⟩
        · simp [Value.ownBlock]; omega
        · rw [hsn.out]
          unfold inc
          rw [HX.out]
          have := HO.out.storedN hit (x + 1)
          push_cast at this
          exact this
      case measure => simp [intOf]; omega
    · obtain rfl : k = P.length := by omega
      rw [List.take_length] at ho
      go_wp2
      go_ret
      exact ⟨_, rfl, by rw [hfin.out]; exact ho, hb⟩
end Go.Proofs.YtlpnicfbgdfbnaaDoor
