/- (element).then. -/
import Derived.Test.YtmlhecfhhhebnaaOne
namespace Go.Proofs.Ytmlhecfhhhebnaa
open Go.RowKit

/-- What an element's numbers are. -/
structure Elt (l : List Int) : Prop where
  len : l.length = 24
  ne : ∀ x ∈ l, x ≠ 0
  lo : ∀ x ∈ l, -24 ≤ x
  hi : ∀ x ∈ l, x ≤ 24
def thX (e : List Int) (x : Int) : Int := if x < 0 then - e.getD (-x - 1).toNat 0 else e.getD (x - 1).toNat 0
theorem thenE_eq (e f : List Int) : thenE e f = f.map (thX e) := rfl
theorem thenE_length (e f : List Int) : (thenE e f).length = f.length := by rw [thenE_eq, List.length_map]
theorem elt_getD {e : List Int} (he : Elt e) (i : Nat) (hi : i < 24) : ∃ y, e[i]? = some y ∧ e.getD i 0 = y ∧ y ≠ 0 ∧ -24 ≤ y ∧ y ≤ 24 := by
  have hl : i < e.length := by rw [he.len]; exact hi
  have hm := List.getElem_mem hl
  exact ⟨e[i], List.getElem?_eq_getElem hl, by simp [List.getD, List.getElem?_eq_getElem hl], he.ne _ hm, he.lo _ hm, he.hi _ hm⟩
theorem thX_ok {e : List Int} (he : Elt e) {x : Int} (_ : x ≠ 0) (h1 : -24 ≤ x) (h2 : x ≤ 24) : thX e x ≠ 0 ∧ -24 ≤ thX e x ∧ thX e x ≤ 24 := by
  unfold thX
  split
  · obtain ⟨y, -, e2, n, a, b⟩ := elt_getD he (-x - 1).toNat (by omega)
    rw [e2]; omega
  · obtain ⟨y, -, e2, n, a, b⟩ := elt_getD he (x - 1).toNat (by omega)
    rw [e2]; omega
theorem Elt.then {e f : List Int} (he : Elt e) (hf : Elt f) : Elt (thenE e f) := by
  rw [thenE_eq]
  refine ⟨by rw [List.length_map, hf.len], fun x hx => ?_, fun x hx => ?_, fun x hx => ?_⟩ <;>
  · obtain ⟨y, hy, rfl⟩ := List.mem_map.1 hx
    have := thX_ok he (hf.ne y hy) (hf.lo y hy) (hf.hi y hy)
    omega
def thTo (e f : List Int) (k : Nat) : List Int := (thenE e f).take k ++ List.replicate (24 - k) 0
theorem thTo_zero (e f : List Int) : thTo e f 0 = zeroE := by simp [thTo, zeroE]
theorem thTo_length {e f : List Int} (hf : f.length = 24) (k : Nat) (hk : k ≤ 24) : (thTo e f k).length = 24 := by
  simp [thTo, thenE_length, hf]; omega
theorem thTo_all {e f : List Int} (hf : f.length = 24) : thTo e f 24 = thenE e f := by
  unfold thTo
  rw [List.take_of_length_le (by rw [thenE_length]; omega)]
  simp
theorem thTo_step {e f : List Int} (hf : f.length = 24) (k : Nat) (hk : k < 24) : (thTo e f k).set k (thX e (f[k]'(by omega))) = thTo e f (k + 1) := by
  have hl : k < (thenE e f).length := by rw [thenE_length]; omega
  have e1 : 24 - k = (24 - (k + 1)) + 1 := by omega
  unfold thTo
  rw [List.take_succ_eq_append_getElem hl, e1, List.replicate_succ, List.set_append_right _ _ (by simp; omega)]
  have e2 : k - (List.take k (thenE e f)).length = 0 := by simp; omega
  rw [e2]
  simp [thenE_eq]

theorem thX_neg (e : List Int) (a : Nat) : thX e (-((a : Int) + 1)) = - e.getD a 0 := by
  unfold thX
  rw [if_pos (by omega), show (-(-((a : Int) + 1)) - 1).toNat = a by omega]
theorem thX_pos (e : List Int) (a : Nat) : thX e ((a : Int) + 1) = e.getD a 0 := by
  unfold thX
  rw [if_neg (by omega), show ((a : Int) + 1 - 1).toNat = a by omega]

set_option maxRecDepth 100000 in
set_option maxHeartbeats 1000000 in
theorem then_any (e f : List Int) (w : World) (he : Elt e) (hf : Elt f) :
    Calls Try.prog 100 #[.agg (cs8 e).toArray, .agg (cs8 f).toArray] w fun r w' => r = .returned (.agg (cs8 (thenE e f)).toArray) ∧ Below w.heap.size w w' := by
  have infF : (Try.prog.info? 113).map (·.size) = some (cs8 f).length := by rw [infoE, cs8_length, hf.len]
  have infO : (Try.prog.info? 113).map (·.size) = some (cs8 (thenE e f)).length := by rw [infoE, cs8_length, thenE_length, hf.len]
  have infA : (Try.prog.info? 113).map (·.size) = some (cs8 (thenE e f)).toArray.size := by rw [infO]; simp
  have HE := Lib.hid he
  have HF := Lib.hid hf
  clear he hf
  go_enter Try.func100, Try.ntmps100
  go_wp2_with (refine wpList_load_mid (by rfl) 113 _ (by rfl) (w.heap.size + 1) 0 (by rfl) (cs8 f) _ (Held.range (by exact ((Held.made (l := cs8 f) (by simp)).alloc _).alloc _)) Try.underlying113 (by rfl) infF ?_)
  go_loopw [9] (fun ix wr => ∃ k : Nat, k ≤ 24 ∧ ix = .int .i64 k ∧ Held wr w.heap.size 113 (cs8 e) ∧ Held wr (w.heap.size + 1 + 1) 113 (cs8 zeroE) ∧ Held wr (w.heap.size + 1 + 1 + 1) 113 (cs8 (thTo e f k)) ∧ Below w.heap.size w wr) (fun ix _ => 24 - (intOf ix).toNat)
  case atStart =>
    refine ⟨0, by omega, rfl, ?_, ?_, ?_, ?_⟩
    · exact (((Held.made (l := cs8 e) (by simp)).alloc _).alloc _).alloc _
    · exact Held.alloc (Held.made (l := cs8 zeroE) (by simp)) _
    · rw [thTo_zero]; exact Held.made (l := cs8 zeroE) (by simp)
    · exact ((((Below.refl _ _).alloc (Nat.le_refl _) _).alloc (by simp) _).alloc (by simp; omega) _).alloc (by simp; omega) _
  case round =>
    obtain ⟨k, hk, rfl, h0, h1, h2, hb⟩ := hrel
    by_cases hlt : k < 24
    · have hki : (k : Int) < 24 := by omega
      obtain ⟨x, hx, -, hne, hlo, hhi⟩ := elt_getD HF.out k hlt
      have hst := thTo_step (e := e) HF.out.len k hlt
      have hxk : f[k]'(by rw [HF.out.len]; exact hlt) = x := by
        have := List.getElem?_eq_getElem (l := f) (i := k) (by rw [HF.out.len]; exact hlt)
        rw [this] at hx; exact Option.some.inj hx
      rw [hxk] at hst
      have hax := run_index_elem f k x hlt (by rw [cs8_get f k (by rw [HF.out.len]; exact hlt), hxk])
      have hc := h2.at (cs8_get (thTo e f k) k (by rw [thTo_length HF.out.len k hk]; exact hlt))
      have hf := h2.free k
      have HX := Lib.hid hst
      have H0 := Lib.hid h0
      have H1 := Lib.hid h1
      have H2 := Lib.hid h2
      have HB := Lib.hid hb
      clear h0 h1 h2 hb hx hxk hst
      by_cases hneg : x < 0
      · obtain ⟨a, rfl⟩ : ∃ a : Nat, x = -((a : Int) + 1) := ⟨(-x - 1).toNat, by omega⟩
        obtain ⟨y, hy, hyd, hyn, hyl, hyh⟩ := elt_getD HE.out a (by omega)
        have hcy := H0.out.at (i := a) (v := .int .i8 y) (by simp [cs8, hy])
        have HY := Lib.hid ((thX_neg e a).trans (by rw [hyd]))
        have hai : (a : Int) < 24 := by omega
        clear hyd hy
        go_wp2
        go_roundw
        case rel =>
          refine ⟨k + 1, by omega, by go_num, H0.out.far (by omega) _ _, H1.out.far (by omega) _ _, ?_, HB.out.setCell (by simp; omega) _⟩
          rw [← HX.out, ← cs8_set, HY.out]
          exact H2.out.put k _
        case measure => simp [intOf]; omega
      · obtain ⟨a, rfl⟩ : ∃ a : Nat, x = (a : Int) + 1 := ⟨(x - 1).toNat, by omega⟩
        obtain ⟨y, hy, hyd, hyn, hyl, hyh⟩ := elt_getD HE.out a (by omega)
        have hcy := H0.out.at (i := a) (v := .int .i8 y) (by simp [cs8, hy])
        have HY := Lib.hid ((thX_pos e a).trans (by rw [hyd]))
        have hai : (a : Int) < 24 := by omega
        clear hyd hy
        go_wp2
        go_roundw
        case rel =>
          refine ⟨k + 1, by omega, by go_num, H0.out.far (by omega) _ _, H1.out.far (by omega) _ _, ?_, HB.out.setCell (by simp; omega) _⟩
          rw [← HX.out, ← cs8_set, HY.out]
          exact H2.out.put k _
        case measure => simp [intOf]; omega
    · obtain rfl : k = 24 := by omega
      rw [thTo_all HF.out.len] at h2
      have HTH := Lib.hid (show wr.there (w.heap.size + 1 + 1) 0 (cs8 (thenE e f)).toArray.size by have := h1.there; simpa [cs8_length, thenE_length, HF.out.len, zeroE] using this)
      have H1 := Lib.hid h1
      have H2 := Lib.hid h2
      have HB := Lib.hid hb
      clear h0 h1 h2 hb
      go_wp2_with (first
        | (refine wpList_load_mid (by rfl) 113 _ (by rfl) (w.heap.size + 1 + 1 + 1) 0 (by rfl) (cs8 (thenE e f)) _ H2.out.range Try.underlying113 (by rfl) infO ?_)
        | (refine wpList_store_mid (by rfl) 113 _ _ (by rfl) (w.heap.size + 1 + 1) 0 (cs8 (thenE e f)).toArray (by rfl) (by rfl) HTH.out infA (all_oneCell_toArray (cs8_one _)) ?_))
      exact bodyPost_ret (results_elem 4 Try.results100 (by rfl) (H1.out.over (cs8 (thenE e f)) (by rw [cs8_length, cs8_length, thenE_length, HF.out.len]; rfl)) (by rw [thenE_length, HF.out.len])) rfl ⟨rfl, below_setCells _ (by omega) _ _ _ HB.out⟩
end Go.Proofs.Ytmlhecfhhhebnaa
