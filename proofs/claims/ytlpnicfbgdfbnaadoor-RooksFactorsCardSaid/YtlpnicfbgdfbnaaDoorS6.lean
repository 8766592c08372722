/- RooksSteep: the walk. -/
import Derived.Test.YtlpnicfbgdfbnaaDoorS5
namespace Go.Proofs.YtlpnicfbgdfbnaaDoor
open Go.RowKit Go.Shelf
attribute [local go_sem] Oper.semAt_some

theorem steep_len {hs : List Nat} {s : List Int} (h : Stp hs) (hst : Steep hs s) : s.length ≤ 17592186044416 := by have := h.le; have := hst.len; omega
theorem FactorGood_any (v : Value) (hs : List Nat) (x : Int) (w : World) (hv : Ints w v (toI hs)) (h : Stp hs) (hx : 0 ≤ x ∧ x ≤ 10) (ht : Tab w) (F : Int) (hF : facT hs x = F) :
    Calls Tryd.prog 42 #[v, .int .i64 x] w fun e w' => e = .returned (.tuple #[.int .i64 F, .int .i64 0]) ∧ Below w.heap.size w w' := hF ▸ Factor_any v hs x w hv h hx.1 hx.2 ht
theorem RefFactorGood_any (v : Value) (hs : List Nat) (x : Int) (w : World) (hv : Ints w v (toI hs)) (h : Stp hs) (hx : 0 ≤ x ∧ x ≤ 10) (F : Int) (hF : facT hs x = F) :
    Calls Tryd.prog 44 #[v, .int .i64 x] w fun e w' => e = .returned (.int .i64 F) ∧ Below w.heap.size w w' := hF ▸ RefFactor_any v hs x w hv h hx.1 hx.2

set_option maxRecDepth 20000 in
set_option maxHeartbeats 2000000 in
theorem SteepL_A (v : Value) (xs : List Int) (x : Int) (w : World) (hv : Ints w v (xs)) (ht : Tab w) (hl : stairB xs = false) :
    Calls Tryd.prog 12 #[v, .int .i64 x] w (True1 w) := by
  have C15 := Lib.hid (fun w' (hb : Below w.heap.size w w') => list_any v xs w' (hv.below hb))
  have C41 := Lib.hid (fun v' w' (hb : Ints w' v' (xs.take 9)) => SteepBad_any v' _ w' hb (by rw [stairB_take]; exact hl))
  have C37 := Lib.hid (fun w' (hb : Below w.heap.size w w') => by have := Steps_any v _ w' (hv.below hb); rw [hl] at this; exact this)
  have C42 := Lib.hid (fun v' w' (hb : Ints w' v' (xs.take 9)) (hw : Below w.heap.size w w') => FactorBad_any v' _ x w' hb (.inl (by rw [stairB_take]; exact hl)))
  have hl9 : (xs.take 9).length ≤ 17592186044416 := by simp; omega
  have C18 := Lib.hid (fun w' (hb : Below w.heap.size w w') => awake_any w' (ht.below hb))
  obtain ⟨a, c, rfl, hlen, hcl, hc⟩ := hv
  have hb0 := Below.refl w.heap.size w
  clear hc ht hl
  go_enter Tryd.func12, Tryd.ntmps12
  go_wp2_with (first
        | (go_at_call 18; refine (C18.out w4 hb4).mono ?_; rintro e w6 ⟨rfl, hb6'⟩; have hb6 := hb4.trans (hb6'.mono hb4.size))
        | (go_at_call 37; refine (C37.out w4 hb4).mono ?_; rintro e w5 ⟨rfl, rfl⟩; have tok5 : True := trivial)
        | (go_at_call 42; refine (C42.out v3 w3 (ho3.ints hl9) hb3).mono ?_; rintro e w4 ⟨rfl, hb4'⟩; have hb4 := hb3.trans (hb4'.mono hb3.size))
        | (go_at_call 15; refine (C15.out w2 hb2).mono ?_; rintro e w3 ⟨v3, rfl, ho3, hb3'⟩; have hb3 := hb2.trans (hb3'.mono hb2.size))
        | (go_at_call 41; refine (C41.out v1 w1 (ho1.ints hl9)).mono ?_; rintro e w2 ⟨rfl, hb2'⟩; have hb2 := hb1.trans (hb2'.mono hb1.size))
        | (go_at_call 15; refine (C15.out w hb0).mono ?_; rintro e w1 ⟨v1, rfl, ho1, hb1'⟩; have hb1 := hb1'))
  go_ret
  exact ⟨rfl, hb6⟩

set_option maxRecDepth 20000 in
set_option maxHeartbeats 2000000 in
theorem SteepL_B (v : Value) (hs : List Nat) (s : List Int) (x : Int) (w : World) (hv : Ints w v (toI hs)) (ht : Tab w) (hl : Stp hs) (hst : Steep hs s) (hx : x < 0 ∨ 10 < x) :
    Calls Tryd.prog 12 #[v, .int .i64 x] w (True1 w) := by
  have C15 := Lib.hid (fun w' (hb : Below w.heap.size w w') => by have := list_any v _ w' (hv.below hb); rw [take_stair hl] at this; exact this)
  have C41 := Lib.hid (fun v' w' (hb : Ints w' v' (toI hs)) => Steep_any v' hs s w' hb hl hst)
  have C37 := Lib.hid (fun w' (hb : Below w.heap.size w w') => by have := Steps_any v _ w' (hv.below hb); rw [stairB_of hl] at this; exact this)
  have C43 := Lib.hid (fun w' (hb : Below w.heap.size w w') => RefSteep_any v hs s w' (hv.below hb) hl hst)
  have hl9 : (toI hs).length ≤ 17592186044416 := hv.len
  have hlS := steep_len hl hst
  have C20 := Lib.hid (fun v1 v2 (xs : List Int) w' (h1 : Ints w' v1 xs) (h2 : Ints w' v2 xs) => by have := Equal_any v1 v2 _ _ w' h1 h2; rw [show decide (xs = xs) = true by simp] at this; exact this)
  have C42 := Lib.hid (fun v' w' (hb : Ints w' v' (toI hs)) (hw : Below w.heap.size w w') => FactorBad_any v' _ x w' hb (.inr hx))
  have C18 := Lib.hid (fun w' (hb : Below w.heap.size w w') => awake_any w' (ht.below hb))
  obtain ⟨a, c, rfl, hlen, hcl, hc⟩ := hv
  have hb0 := Below.refl w.heap.size w
  clear hc ht hl hst
  have HXX := Lib.hid hx
  clear hx
  by_cases hx0 : x < 0
  · go_enter Tryd.func12, Tryd.ntmps12
    go_wp2_with (first
          | (go_at_call 18; refine (C18.out w7 hb7).mono ?_; rintro e w8 ⟨rfl, hb8'⟩; have hb8 := hb7.trans (hb8'.mono hb7.size))
          | (go_at_call 20; refine (C20.out v2 v6 _ w6 hk6 hi6).mono ?_; rintro e w7 ⟨rfl, hb7'⟩; have hb7 := hb6.trans (hb7'.mono hb6.size))
          | (go_at_call 43; refine (C43.out w4 hb4).mono ?_; rintro e w6 ⟨v6, rfl, hi6, hb6'⟩; have hb6 := hb4.trans (hb6'.mono hb4.size); have hk6 := (((ho2.below hb3').below hb4').below hb6').ints hlS)
          | (go_at_call 37; refine (C37.out w4 hb4).mono ?_; rintro e w5 ⟨rfl, rfl⟩; have tok5 : True := trivial)
          | (go_at_call 42; refine (C42.out v3 w3 (ho3.ints hl9) hb3).mono ?_; rintro e w4 ⟨rfl, hb4'⟩; have hb4 := hb3.trans (hb4'.mono hb3.size))
          | (go_at_call 15; refine (C15.out w2 hb2).mono ?_; rintro e w3 ⟨v3, rfl, ho3, hb3'⟩; have hb3 := hb2.trans (hb3'.mono hb2.size))
          | (go_at_call 41; refine (C41.out v1 w1 (ho1.ints hl9)).mono ?_; rintro e w2 ⟨v2, rfl, ho2, hb2'⟩; have hb2 := hb1.trans (hb2'.mono hb1.size))
          | (go_at_call 15; refine (C15.out w hb0).mono ?_; rintro e w1 ⟨v1, rfl, ho1, hb1'⟩; have hb1 := hb1'))
    go_ret
    exact ⟨rfl, hb8⟩
  · have hx1 : 10 < x := by have := HXX.out; omega
    go_enter Tryd.func12, Tryd.ntmps12
    go_wp2_with (first
          | (go_at_call 18; refine (C18.out w7 hb7).mono ?_; rintro e w8 ⟨rfl, hb8'⟩; have hb8 := hb7.trans (hb8'.mono hb7.size))
          | (go_at_call 20; refine (C20.out v2 v6 _ w6 hk6 hi6).mono ?_; rintro e w7 ⟨rfl, hb7'⟩; have hb7 := hb6.trans (hb7'.mono hb6.size))
          | (go_at_call 43; refine (C43.out w4 hb4).mono ?_; rintro e w6 ⟨v6, rfl, hi6, hb6'⟩; have hb6 := hb4.trans (hb6'.mono hb4.size); have hk6 := (((ho2.below hb3').below hb4').below hb6').ints hlS)
          | (go_at_call 37; refine (C37.out w4 hb4).mono ?_; rintro e w5 ⟨rfl, rfl⟩; have tok5 : True := trivial)
          | (go_at_call 42; refine (C42.out v3 w3 (ho3.ints hl9) hb3).mono ?_; rintro e w4 ⟨rfl, hb4'⟩; have hb4 := hb3.trans (hb4'.mono hb3.size))
          | (go_at_call 15; refine (C15.out w2 hb2).mono ?_; rintro e w3 ⟨v3, rfl, ho3, hb3'⟩; have hb3 := hb2.trans (hb3'.mono hb2.size))
          | (go_at_call 41; refine (C41.out v1 w1 (ho1.ints hl9)).mono ?_; rintro e w2 ⟨v2, rfl, ho2, hb2'⟩; have hb2 := hb1.trans (hb2'.mono hb1.size))
          | (go_at_call 15; refine (C15.out w hb0).mono ?_; rintro e w1 ⟨v1, rfl, ho1, hb1'⟩; have hb1 := hb1'))
    go_ret
    exact ⟨rfl, hb8⟩

set_option maxRecDepth 20000 in
set_option maxHeartbeats 2000000 in
theorem SteepL_C (v : Value) (hs : List Nat) (s : List Int) (x : Int) (w : World) (hv : Ints w v (toI hs)) (ht : Tab w) (hl : Stp hs) (hst : Steep hs s) (hx : 0 ≤ x ∧ x ≤ 10) :
    Calls Tryd.prog 12 #[v, .int .i64 x] w (True1 w) := by
  have C15 := Lib.hid (fun w' (hb : Below w.heap.size w w') => by have := list_any v _ w' (hv.below hb); rw [take_stair hl] at this; exact this)
  have C41 := Lib.hid (fun v' w' (hb : Ints w' v' (toI hs)) => Steep_any v' hs s w' hb hl hst)
  have C37 := Lib.hid (fun w' (hb : Below w.heap.size w w') => by have := Steps_any v _ w' (hv.below hb); rw [stairB_of hl] at this; exact this)
  have C43 := Lib.hid (fun w' (hb : Below w.heap.size w w') => RefSteep_any v hs s w' (hv.below hb) hl hst)
  have hl9 : (toI hs).length ≤ 17592186044416 := hv.len
  have hlS := steep_len hl hst
  have C20 := Lib.hid (fun v1 v2 (xs : List Int) w' (h1 : Ints w' v1 xs) (h2 : Ints w' v2 xs) => by have := Equal_any v1 v2 _ _ w' h1 h2; rw [show decide (xs = xs) = true by simp] at this; exact this)
  obtain ⟨F, hF⟩ : ∃ F, facT hs x = F := ⟨_, rfl⟩
  have C42 := Lib.hid (fun v' w' (hb : Ints w' v' (toI hs)) (hw : Below w.heap.size w w') => FactorGood_any v' hs x w' hb hl hx (ht.below hw) F hF)
  have C44 := Lib.hid (fun w' (hb : Below w.heap.size w w') => RefFactorGood_any v hs x w' (hv.below hb) hl hx F hF)
  have C18 := Lib.hid (fun w' (hb : Below w.heap.size w w') => awake_any w' (ht.below hb))
  obtain ⟨a, c, rfl, hlen, hcl, hc⟩ := hv
  have hb0 := Below.refl w.heap.size w
  clear hc ht hl hst hF
  obtain ⟨hx0, hx1⟩ := hx
  have hx2 : ¬ x < 0 := by omega
  have hx3 : ¬ 10 < x := by omega
  go_enter Tryd.func12, Tryd.ntmps12
  go_wp2_with (first
        | (go_at_call 44; refine (C44.out w8 hb8).mono ?_; rintro e w9 ⟨rfl, hb9'⟩; have hb9 := hb8.trans (hb9'.mono hb8.size))
        | (go_at_call 18; refine (C18.out w7 hb7).mono ?_; rintro e w8 ⟨rfl, hb8'⟩; have hb8 := hb7.trans (hb8'.mono hb7.size))
        | (go_at_call 20; refine (C20.out v2 v6 _ w6 hk6 hi6).mono ?_; rintro e w7 ⟨rfl, hb7'⟩; have hb7 := hb6.trans (hb7'.mono hb6.size))
        | (go_at_call 43; refine (C43.out w4 hb4).mono ?_; rintro e w6 ⟨v6, rfl, hi6, hb6'⟩; have hb6 := hb4.trans (hb6'.mono hb4.size); have hk6 := (((ho2.below hb3').below hb4').below hb6').ints hlS)
        | (go_at_call 37; refine (C37.out w4 hb4).mono ?_; rintro e w5 ⟨rfl, rfl⟩; have tok5 : True := trivial)
        | (go_at_call 42; refine (C42.out v3 w3 (ho3.ints hl9) hb3).mono ?_; rintro e w4 ⟨rfl, hb4'⟩; have hb4 := hb3.trans (hb4'.mono hb3.size))
        | (go_at_call 15; refine (C15.out w2 hb2).mono ?_; rintro e w3 ⟨v3, rfl, ho3, hb3'⟩; have hb3 := hb2.trans (hb3'.mono hb2.size))
        | (go_at_call 41; refine (C41.out v1 w1 (ho1.ints hl9)).mono ?_; rintro e w2 ⟨v2, rfl, ho2, hb2'⟩; have hb2 := hb1.trans (hb2'.mono hb1.size))
        | (go_at_call 15; refine (C15.out w hb0).mono ?_; rintro e w1 ⟨v1, rfl, ho1, hb1'⟩; have hb1 := hb1'))
  go_ret
  exact ⟨rfl, hb9⟩

theorem rooksSteep_true (v : Value) (xs : List Int) (x : Int) (w : World) (hv : Ints w v xs) (_ : -9223372036854775808 ≤ x ∧ x ≤ 9223372036854775807) (ht : Tab w) :
    Calls Tryd.prog 12 #[v, .int .i64 x] w (True1 w) := by
  cases hl : stairB xs with
  | false => exact SteepL_A v xs x w hv ht hl
  | true =>
    obtain ⟨hs, rfl, hs'⟩ := stair_of hl
    obtain ⟨s, hst⟩ := steep_of hs'
    by_cases hx : 0 ≤ x ∧ x ≤ 10
    · exact SteepL_C v hs s x w hv ht hs' hst hx
    · exact SteepL_B v hs s x w hv ht hs' hst (by omega)
end Go.Proofs.YtlpnicfbgdfbnaaDoor
