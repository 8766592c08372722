/- ref.rising of ints: the walk. -/
import Derived.Test.YtlpnicfbgdfbnaaDoorA7
import Derived.Test.YtlpnicfbgdfbnaaDoorB3
namespace Go.Proofs.YtlpnicfbgdfbnaaDoor
open Go.RowKit Go.Shelf
attribute [local go_sem] Oper.semAt_some

/-- The same list. -/
def toZ (l : List Int) : List Int := l
theorem toZ_length (l : List Int) : (toZ l).length = l.length := rfl
theorem toZ_getElem (l : List Int) (i : Nat) (h : i < (toZ l).length) : (toZ l)[i] = l[i]'h := rfl
theorem toZ_take (l : List Int) (n : Nat) : (toZ l).take n = toZ (l.take n) := rfl
theorem toZ_append (a b : List Int) : toZ (a ++ b) = toZ a ++ toZ b := rfl
theorem getD_atZ {l : List Int} {i : Nat} (h : i < l.length) : l.getD i 0 = l[i] := by simp [List.getD, List.getElem?_eq_getElem h]
theorem ne_nil_of_ltZ {l : List Int} {k : Nat} (h : k < l.length) : l ≠ [] := by
  rintro rfl; simp at h
theorem Ints.openZ {w : World} {v : Value} {bs : List Int} (h : Ints w v (toZ bs)) : ∃ (a : Option Addr) (c : Nat), v = .slice a bs.length c ∧ bs.length ≤ 17592186044416 ∧ bs.length ≤ c ∧
    (bs ≠ [] → ∃ b off, a = some ⟨b, off, none⟩ ∧ b < w.heap.size ∧ ∀ i (h : i < bs.length), w.cell? ⟨b, off + i, none⟩ = some (.int .i64 bs[i])) := h
theorem OwnI.cellZ {e : TypeId} {B : Nat} {w : World} {g n cap : Nat} {L : List Int} (h : OwnI e B w (.slice (some ⟨g, 0, none⟩) n cap) (toZ L)) (j : Nat) (hj : j < L.length) : w.cell? ⟨g, j, none⟩ = some (.int .i64 L[j]) := by
  obtain ⟨h1, h2⟩ := h
  rcases h2 with ⟨h2, _⟩ | ⟨g', cap', cur, h2, hg, hh, r⟩
  · cases h2
  · obtain ⟨e1, rfl, rfl⟩ := Value.slice.inj h2
    obtain rfl : g = g' := by simpa using e1
    have hown : w.ownsRow B e 1 (.slice (some ⟨g, 0, none⟩) (toZ L).length cap) (toZ L).length ((toZ L).map (Value.int .i64)) := ⟨h1, .inr ⟨g, cap, cur, rfl, hg, hh, r⟩⟩
    rw [World.ownsRow.cellAt hown j (by rw [toZ_length]; omega)]
    simp [List.getElem?_eq_getElem hj, toZ]
structure Z65 (W0 : World) (vo v30 v37 : Value) (cur : List Int) (p : Nat) (x : Int) (d : Nat → Bool) (y : Nat → Value) (wx : World) : Prop where
  hb : Below W0.heap.size W0 wx
  h27 : d 0 = true → d 4 = false → OwnI 3 W0.heap.size wx (y 27) []
  h31 : d 4 = true → d 7 = false → OwnI 3 W0.heap.size wx (y 31) (toZ (cur.take p))
  h33 : d 6 = true → d 7 = false → ∃ g, y 33 = .slice (some ⟨g, 0, none⟩) 1 1 ∧ Boxed wx g 3 (.int .i64 (x : Int)) ∧ (d 0 = true → d 4 = false → (y 27).ownBlock ≠ some g)
  h34 : d 7 = true → d 11 = false → OwnI 3 W0.heap.size wx (y 34) (toZ (cur.take p) ++ [(x : Int)])
  h38 : d 11 = true → OwnI 3 W0.heap.size wx (y 38) (toZ (cur.take p ++ x :: cur.drop p))
  h3 : d 12 = true → y 3 = y 38
  h3a : d 12 = false → y 3 = vo
  h28 : d 1 = true → y 28 = vo
  h29 : d 2 = true → y 29 = .int .i64 (p : Nat)
  h30 : d 3 = true → y 30 = v30
  c3_1 : d 3 = true → d 1 = true
  c3_2 : d 3 = true → d 2 = true
  c4_0 : d 4 = true → d 0 = true
  c4_3 : d 4 = true → d 3 = true
  h32 : d 5 = true → y 32 = .int .i64 (x : Int)
  c6_5 : d 6 = true → d 5 = true
  c7_4 : d 7 = true → d 4 = true
  c7_6 : d 7 = true → d 6 = true
  h35 : d 8 = true → y 35 = vo
  h36 : d 9 = true → y 36 = .int .i64 (p : Nat)
  h37 : d 10 = true → y 37 = v37
  c10_8 : d 10 = true → d 8 = true
  c10_9 : d 10 = true → d 9 = true
  c11_7 : d 11 = true → d 7 = true
  c11_10 : d 11 = true → d 10 = true
  c12_11 : d 12 = true → d 11 = true
theorem Z65.all {W0 : World} {vo v30 v37 : Value} {cur : List Int} {p : Nat} {x : Int} {d : Nat → Bool} {y : Nat → Value} {wx : World} (h : Z65 W0 vo v30 v37 cur p x d y wx) (h12 : d 12 = true) : d 1 = true :=
  h.c3_1 (h.c4_3 (h.c7_4 (h.c11_7 (h.c12_11 h12))))
theorem Z65.all2 {W0 : World} {vo v30 v37 : Value} {cur : List Int} {p : Nat} {x : Int} {d : Nat → Bool} {y : Nat → Value} {wx : World} (h : Z65 W0 vo v30 v37 cur p x d y wx) (h12 : d 12 = true) : d 8 = true :=
  h.c10_8 (h.c11_10 (h.c12_11 h12))

theorem ints_dropZ {B : Nat} {w : World} {a : Option Addr} {c : Nat} {cur : List Int} (ho : OwnI 3 B w (.slice a cur.length c) (toZ cur)) (ha : (a = none ∧ cur.length = 0 ∧ c = 0) ∨ ∃ g, a = some ⟨g, 0, none⟩) (hLc : cur.length ≤ c) (hl : cur.length ≤ 12) (p : Nat) (hp : p ≤ cur.length) :
    Ints w (v37of a cur.length c p) (toZ (cur.drop p)) := by
  have hlen : (toZ (cur.drop p)).length = cur.length - p := by rw [toZ_length, List.length_drop]
  refine ⟨if c = p then a else a.map fun ad => ⟨ad.block, p, none⟩, c - p, by rw [hlen]; rfl, by omega, by omega, fun hne => ?_⟩
  have hlt : p < cur.length := Nat.lt_of_not_le fun h => hne (List.eq_nil_of_length_eq_zero (by omega))
  rcases ha with ⟨_, h, _⟩ | ⟨g, rfl⟩
  · omega
  · rw [if_neg (by omega)]
    refine ⟨g, p, rfl, ho.blockEq.2, fun i hi => ?_⟩
    have := ho.cellZ (p + i) (by omega)
    rw [this]
    congr 2
    exact (List.getElem_drop ..).symm

set_option maxRecDepth 20000 in
set_option maxHeartbeats 8000000 in
theorem risingZ_any (v : Value) (xs : List Int) (w : World) (hv : Ints w v (toZ xs)) (h12 : xs.length ≤ 12) :
    Calls Tryd.prog 65 #[v] w fun e w' => ∃ v', e = .returned v' ∧ OwnI 3 w.heap.size w' v' (toZ (riseZ xs)) ∧ Below w.heap.size w w' := by
  obtain ⟨a0, c0, rfl, hlen, hcl, hc⟩ := hv.openZ
  have HCC := Lib.hid hc
  clear hv hc
  go_enter Tryd.func65, Tryd.ntmps65
  go_wp2
  go_loopw [3, 9] (fun o ix wr => ∃ k : Nat, k ≤ xs.length ∧ ix = .int .i64 k ∧ OwnI 3 w.heap.size wr o (toZ (riseZ (xs.take k))) ∧ Below w.heap.size w wr) (fun _ i _ => xs.length - (intOf i).toNat)
  case atStart => exact ⟨0, Nat.zero_le _, rfl, OwnI.nil _ _ _, Below.refl _ _⟩
  case round =>
    obtain ⟨k, hk, rfl, ho, hb⟩ := hrel
    by_cases hlt : k < xs.length
    · obtain ⟨b, off, rfl, hbl, hcell⟩ := HCC.out (ne_nil_of_lt hlt)
      have hcx := (hb.cell (p := ⟨b, off + k, none⟩) hbl).trans (hcell k hlt)
      have HR := Lib.hid (riseZ_snoc xs k hlt)
      have hcl2 := riseZ_len (xs.take k)
      rw [List.length_take, Nat.min_eq_left (Nat.le_of_lt hlt)] at hcl2
      obtain ⟨x, hx⟩ : ∃ x, xs[k] = x := ⟨_, rfl⟩
      obtain ⟨cur, hcur⟩ : ∃ cur, riseZ (xs.take k) = cur := ⟨_, rfl⟩
      rw [hx] at hcx HR
      rw [hcur] at HR ho hcl2
      obtain ⟨a, c, e3⟩ := ho.form
      rw [toZ_length] at e3
      have ha : (a = none ∧ cur.length = 0 ∧ c = 0) ∨ ∃ g, a = some ⟨g, 0, none⟩ := by
        rcases ho.2 with ⟨h1, h2⟩ | ⟨g, cap, cu, h1, _⟩
        · rw [e3] at h1
          obtain ⟨q1, q2, q3⟩ := Value.slice.inj h1
          exact .inl ⟨q1, by omega, by omega⟩
        · rw [e3] at h1
          obtain ⟨q1, _⟩ := Value.slice.inj h1
          exact .inr ⟨g, q1⟩
      have hLc : cur.length ≤ c := by
        obtain ⟨a', c', q1, g1, g2, _⟩ := (ho.ints (by rw [toZ_length]; omega)).openZ
        rw [e3] at q1
        obtain ⟨_, _, rfl⟩ := Value.slice.inj q1
        exact g2
      subst e3
      have hL12 : cur.length ≤ 12 := by omega
      have HT := Lib.hid (fun p (hp : p ≤ cur.length) => (show Ints wr (.slice a p c) (toZ (cur.take p)) by
        have := ints_take (w := wr) (a := a) (xs := toZ cur) (c := c) (n := p) (by rw [toZ_length]; exact ho.ints (by rw [toZ_length]; omega)) (by rw [toZ_length]; exact hp)
        rwa [toZ_take] at this))
      have HD := Lib.hid (fun p (hp : p ≤ cur.length) => ints_dropZ ho ha hLc hL12 p hp)
      have hZ : ∀ n c', Value.slice a n c' = .slice none n c' → c = 0 := fun n c' h => by
        obtain ⟨q1, _⟩ := Value.slice.inj h
        rcases ha with ⟨_, _, h⟩ | ⟨g, h⟩
        · exact h
        · rw [h] at q1; cases q1
      have HZ := Lib.hid hZ
      have HO := Lib.hid ho
      have HB := Lib.hid hb
      obtain ⟨L, hL⟩ : ∃ L, cur.length = L := ⟨_, rfl⟩
      have HL := Lib.hid hL
      rw [hL] at HO hLc ha hL12 HT HD ⊢
      clear hx hcur ho hb hcell hcl2 hL hZ
      go_upto_region 6 with (fail)
      go_loopw [6] (fun ix wq => ∃ p : Nat, p ≤ L ∧ ix = .int .i64 p ∧ wq = wr ∧ ∀ i, i < p → cur.getD i 0 ≤ x) (fun ix _ => L - (intOf ix).toNat)
      case atStart => exact ⟨0, Nat.zero_le _, rfl, rfl, fun i h => by omega⟩
      case round =>
        obtain ⟨p, hp, rfl, hw, hbefore⟩ := hrel
        have hw' := hw.symm
        subst hw'
        clear hw
        have HBF := Lib.hid hbefore
        clear hbefore
        have HI30 := Lib.hid (HT.out p hp)
        have HI37 := Lib.hid (HD.out p hp)
        have hz30 : ∀ n c', Value.slice a p c = .slice none n c' → c' = 0 := fun n c' h => by
          obtain ⟨q1, q2, q3⟩ := Value.slice.inj h
          rw [← q3]; exact HZ.out n c' (by rw [q1])
        have hz37 : ∀ n c', v37of a L c p = .slice none n c' → c' = 0 := fun n c' h => by
          obtain ⟨q1, q2, q3⟩ := Value.slice.inj h
          have : a = none := by
            by_cases e : c = p
            · rw [if_pos e] at q1; exact q1
            · rw [if_neg e] at q1
              cases a with
              | none => rfl
              | some ad => cases q1
          have := HZ.out n c' (by rw [this])
          omega
        have HZ30 := Lib.hid hz30
        have HZ37 := Lib.hid hz37
        have hpL : (p : Int) ≤ (L : Int) := by omega
        have hpc : (p : Int) ≤ (c : Int) := by omega
        have hLci : (L : Int) ≤ (c : Int) := by omega
        clear hz30 hz37
        by_cases hpl : p < L
        · have hpi : (p : Int) < (L : Int) := by omega
          have hLe := HL.out
          have hsome : ∃ g, a = some ⟨g, 0, none⟩ := by
            rcases ha with ⟨_, h, _⟩ | h
            · omega
            · exact h
          obtain ⟨g, hg⟩ := hsome
          subst hg
          have cp := HO.out.cellZ p (by omega)
          have HGP := Lib.hid (getD_atZ (show p < cur.length by omega))
          obtain ⟨z, hz⟩ : ∃ z, cur[p]'(by omega) = z := ⟨_, rfl⟩
          rw [hz] at cp HGP
          clear hz hLe
          by_cases hzx : z ≤ x
          · have hzi : (z : Int) ≤ (x : Int) := by omega
            have hw1 : IntKind.i64.wrap ((p : Int) + 1) = (p : Int) + 1 := IntWalk.i64_in _ (by omega)
            clear ha
            go_wp2
            go_roundw
            case rel =>
              refine ⟨p + 1, by omega, by go_num, trivial, fun i hi => ?_⟩
              by_cases e : i = p
              · subst e; rw [HGP.out]; exact hzx
              · exact HBF.out i (by omega)
            case measure => simp [intOf]; omega
          · have hzi : decide ((z : Int) ≤ (x : Int)) = false := by simp; omega
            have hzi2 : ¬ (z : Int) ≤ (x : Int) := by omega
            have HA := Lib.hid ha
            clear ha
            go_upto_region 8 with (fail)
            have ha := HA.out
            have hz30 := HZ30.out
            have hz37 := HZ37.out
            generalize (some (⟨g, 0, none⟩ : Addr)) = a at *
            have hstop : p < L → x < cur.getD p 0 := fun _ => by rw [HGP.out]; omega
            obtain ⟨W0, hW0⟩ : ∃ W0, wr.drew = W0 := ⟨_, rfl⟩
            have hs0 : W0.heap.size = wr.heap.size := by rw [← hW0]; rfl
            have H30 := Lib.hid (show Ints W0 (.slice a p c) (toZ (cur.take p)) by rw [← hW0]; exact HI30.out)
            have H37 := Lib.hid (show Ints W0 (v37of a L c p) (toZ (cur.drop p)) by rw [← hW0]; exact HI37.out)
            have HBW := Lib.hid (show Below w.heap.size w W0 by rw [← hW0]; exact HB.out.drew)
            have H0 := Lib.hid hW0
            clear hW0
            refine wp_region_sched (by kernel_rfl) [3, 27, 28, 29, 30, 31, 32, 33, 34, 35, 36, 37, 38] (by kernel_rfl) (Z65 W0 (.slice a L c) (.slice a p c) (v37of a L c p) cur p x) ?_ ?_ ?_
            · rw [H0.out]
              refine ⟨Below.refl _ _, ?_, ?_, ?_, ?_, ?_, ?_, fun _ => rfl, ?_, ?_, ?_, ?_, ?_, ?_, ?_, ?_, ?_, ?_, ?_, ?_, ?_, ?_, ?_, ?_, ?_, ?_, ?_⟩ <;> exact fun h => by cases h
            · intro i' o ho d y wx hdi hdep hN
              match i', ho with
              | 0, ho =>
                obtain rfl := Option.some.inj ho
                refine rstep_value rfl (v := .slice (some ⟨wx.heap.size, 0, none⟩) 0 0) (w' := wx.alloc (.cells #[] 3)) ?_ ?_
                · simp only [hole, List.foldl_cons, List.foldl_nil, List.setIfInBounds_toArray, List.set_cons_zero, List.set_cons_succ]
                  go_simp
                · exact ⟨below_alloc hN.hb _, (fun _ _ => own_empty wx hN.hb.size), (fun h => by have h2 := hN.c4_0 h; rw [hdi] at h2; cases h2), (fun h h' => by obtain ⟨g, h1, h2, -⟩ := hN.h33 h h'; exact ⟨g, h1, h2.alloc _, fun _ _ e => by have hl := h2.lt; have e2 : some wx.heap.size = some g := e; cases e2; omega⟩), (fun h => by have h2 := hN.c4_0 (hN.c7_4 h); rw [hdi] at h2; cases h2), (fun h => by have h2 := hN.c4_0 (hN.c7_4 (hN.c11_7 h)); rw [hdi] at h2; cases h2), hN.h3, hN.h3a, hN.h28, hN.h29, hN.h30, hN.c3_1, hN.c3_2, (fun _ => rfl), hN.c4_3, hN.h32, hN.c6_5, hN.c7_4, hN.c7_6, hN.h35, hN.h36, hN.h37, hN.c10_8, hN.c10_9, hN.c11_7, hN.c11_10, hN.c12_11⟩
              | 1, ho =>
                obtain rfl := Option.some.inj ho
                have d12 : d 12 = false := Bool.eq_false_iff.2 fun h => by have h2 := hN.all h; rw [hdi] at h2; simp at h2
                have e3 := hN.h3a d12
                refine rstep_value rfl (v := .slice a L c) (w' := wx) ?_ ?_
                · simp only [hole, List.foldl_cons, List.foldl_nil, List.setIfInBounds_toArray, List.set_cons_zero, List.set_cons_succ]
                  go_simp
                · exact ⟨hN.hb, hN.h27, hN.h31, hN.h33, hN.h34, hN.h38, hN.h3, hN.h3a, (fun _ => rfl), hN.h29, hN.h30, (fun _ => rfl), hN.c3_2, hN.c4_0, hN.c4_3, hN.h32, hN.c6_5, hN.c7_4, hN.c7_6, hN.h35, hN.h36, hN.h37, hN.c10_8, hN.c10_9, hN.c11_7, hN.c11_10, hN.c12_11⟩
              | 2, ho =>
                obtain rfl := Option.some.inj ho
                refine rstep_value rfl (v := .int .i64 (p : Nat)) (w' := wx) ?_ ?_
                · simp only [hole, List.foldl_cons, List.foldl_nil, List.setIfInBounds_toArray, List.set_cons_zero, List.set_cons_succ]
                  go_simp
                · exact ⟨hN.hb, hN.h27, hN.h31, hN.h33, hN.h34, hN.h38, hN.h3, hN.h3a, hN.h28, (fun _ => rfl), hN.h30, hN.c3_1, (fun _ => rfl), hN.c4_0, hN.c4_3, hN.h32, hN.c6_5, hN.c7_4, hN.c7_6, hN.h35, hN.h36, hN.h37, hN.c10_8, hN.c10_9, hN.c11_7, hN.c11_10, hN.c12_11⟩
              | 3, ho =>
                obtain rfl := Option.some.inj ho
                have e28 := hN.h28 (hdep ⟨1, .data⟩ (by simp) rfl)
                have e29 := hN.h29 (hdep ⟨2, .data⟩ (by simp) rfl)
                refine rstep_value rfl (v := .slice a p c) (w' := wx) ?_ ?_
                · simp only [hole, List.foldl_cons, List.foldl_nil, List.setIfInBounds_toArray, List.set_cons_zero, List.set_cons_succ]
                  rcases ha with ⟨rfl, hL0, rfl⟩ | ⟨g, rfl⟩
                  · obtain rfl : p = 0 := by omega
                    subst hL0
                    go_simp
                  · go_simp
                · exact ⟨hN.hb, hN.h27, hN.h31, hN.h33, hN.h34, hN.h38, hN.h3, hN.h3a, hN.h28, hN.h29, (fun _ => rfl), (fun _ => hdep ⟨1, .data⟩ (by simp) rfl), (fun _ => hdep ⟨2, .data⟩ (by simp) rfl), hN.c4_0, (fun _ => rfl), hN.h32, hN.c6_5, hN.c7_4, hN.c7_6, hN.h35, hN.h36, hN.h37, hN.c10_8, hN.c10_9, hN.c11_7, hN.c11_10, hN.c12_11⟩
              | 4, ho =>
                obtain rfl := Option.some.inj ho
                have e30 := hN.h30 (hdep ⟨3, .data⟩ (by simp) rfl)
                have o27 := hN.h27 (hdep ⟨0, .data⟩ (by simp) rfl) hdi
                have hsz := hN.hb.size
                obtain ⟨v', w', hrun, r1, r2, r3⟩ := run_appI (ty := 22) o27 (H30.out.below hN.hb) hz30 (by omega) (by simp) (by rw [toZ_length, List.length_take]; omega)
                refine rstep_value rfl (v := v') (w' := w') ?_ ?_
                · simp only [hole, List.foldl_cons, List.foldl_nil, List.setIfInBounds_toArray, List.set_cons_zero, List.set_cons_succ]
                  simp [execOp, resolve, invoke, builtin, Act.eval, e30, Result.andThen]
                  rw [hrun]
                · exact ⟨hN.hb.trans r3, (fun _ h => by simp at h), (fun _ _ => r1), (fun h h' => by obtain ⟨g, h1, h2, h3⟩ := hN.h33 h h'; exact ⟨g, h1, h2.kept r2 (Ne.symm (h3 (hdep ⟨0, .data⟩ (by simp) rfl) hdi)), fun _ h => by simp at h⟩), (fun h => by have h2 := hN.c7_4 h; rw [hdi] at h2; cases h2), (fun h => by have h2 := hN.c7_4 (hN.c11_7 h); rw [hdi] at h2; cases h2), hN.h3, hN.h3a, hN.h28, hN.h29, hN.h30, hN.c3_1, hN.c3_2, (fun _ => hdep ⟨0, .data⟩ (by simp) rfl), (fun _ => hdep ⟨3, .data⟩ (by simp) rfl), hN.h32, hN.c6_5, (fun _ => rfl), hN.c7_6, hN.h35, hN.h36, hN.h37, hN.c10_8, hN.c10_9, hN.c11_7, hN.c11_10, hN.c12_11⟩
              | 5, ho =>
                obtain rfl := Option.some.inj ho
                refine rstep_value rfl (v := .int .i64 (x : Int)) (w' := wx) ?_ ?_
                · simp only [hole, List.foldl_cons, List.foldl_nil, List.setIfInBounds_toArray, List.set_cons_zero, List.set_cons_succ]
                  go_simp
                · exact ⟨hN.hb, hN.h27, hN.h31, hN.h33, hN.h34, hN.h38, hN.h3, hN.h3a, hN.h28, hN.h29, hN.h30, hN.c3_1, hN.c3_2, hN.c4_0, hN.c4_3, (fun _ => rfl), (fun _ => rfl), hN.c7_4, hN.c7_6, hN.h35, hN.h36, hN.h37, hN.c10_8, hN.c10_9, hN.c11_7, hN.c11_10, hN.c12_11⟩
              | 6, ho =>
                obtain rfl := Option.some.inj ho
                have e32 := hN.h32 (hdep ⟨5, .data⟩ (by simp) rfl)
                refine rstep_value rfl (v := .slice (some ⟨wx.heap.size, 0, none⟩) 1 1) (w' := wx.alloc (.cells #[.int .i64 (x : Int)] 3)) ?_ ?_
                · simp only [hole, List.foldl_cons, List.foldl_nil, List.setIfInBounds_toArray, List.set_cons_zero, List.set_cons_succ]
                  go_simp
                · exact ⟨below_alloc hN.hb _, (fun h h' => (hN.h27 h h').alloc _), (fun h h' => (hN.h31 h h').alloc _), (fun _ _ => ⟨_, rfl, Boxed.new _ _ _, fun h h' e => by have := ((hN.h27 h h').lt _ e).2; omega⟩), (fun h => by have h2 := hN.c7_6 h; rw [hdi] at h2; cases h2), (fun h => by have h2 := hN.c7_6 (hN.c11_7 h); rw [hdi] at h2; cases h2), hN.h3, hN.h3a, hN.h28, hN.h29, hN.h30, hN.c3_1, hN.c3_2, hN.c4_0, hN.c4_3, hN.h32, (fun _ => hdep ⟨5, .data⟩ (by simp) rfl), hN.c7_4, (fun _ => rfl), hN.h35, hN.h36, hN.h37, hN.c10_8, hN.c10_9, hN.c11_7, hN.c11_10, hN.c12_11⟩
              | 7, ho =>
                obtain rfl := Option.some.inj ho
                have o31 := hN.h31 (hdep ⟨4, .data⟩ (by simp) rfl) hdi
                obtain ⟨g, e33, xg, -⟩ := hN.h33 (hdep ⟨6, .data⟩ (by simp) rfl) hdi
                have hsz := hN.hb.size
                obtain ⟨v', w', hrun, r1, r2, r3⟩ := run_app1 (P := Tryd.prog) (t := 22) (ty := 22) Tryd.underlying22 info3 o31 (ad := ⟨g, 0, none⟩) (c := 1) xg.cell (by rw [toZ_length, List.length_take]; omega) hsz
                refine rstep_value rfl (v := v') (w' := w') ?_ ?_
                · simp only [hole, List.foldl_cons, List.foldl_nil, List.setIfInBounds_toArray, List.set_cons_zero, List.set_cons_succ]
                  simp [execOp, resolve, invoke, builtin, Act.eval, e33, Result.andThen]
                  rw [hrun]
                · exact ⟨hN.hb.trans r3, (fun _ h => by have h2 := hdep ⟨4, .data⟩ (by simp) rfl; rw [show d 4 = false from h] at h2; cases h2), (fun _ h => by simp at h), (fun _ h => by simp at h), (fun _ _ => r1), (fun h => by have h2 := hN.c11_7 h; rw [hdi] at h2; cases h2), hN.h3, hN.h3a, hN.h28, hN.h29, hN.h30, hN.c3_1, hN.c3_2, hN.c4_0, hN.c4_3, hN.h32, hN.c6_5, (fun _ => hdep ⟨4, .data⟩ (by simp) rfl), (fun _ => hdep ⟨6, .data⟩ (by simp) rfl), hN.h35, hN.h36, hN.h37, hN.c10_8, hN.c10_9, (fun _ => rfl), hN.c11_10, hN.c12_11⟩
              | 8, ho =>
                obtain rfl := Option.some.inj ho
                have d12 : d 12 = false := Bool.eq_false_iff.2 fun h => by have h2 := hN.all2 h; rw [hdi] at h2; simp at h2
                have e3 := hN.h3a d12
                refine rstep_value rfl (v := .slice a L c) (w' := wx) ?_ ?_
                · simp only [hole, List.foldl_cons, List.foldl_nil, List.setIfInBounds_toArray, List.set_cons_zero, List.set_cons_succ]
                  go_simp
                · exact ⟨hN.hb, hN.h27, hN.h31, hN.h33, hN.h34, hN.h38, hN.h3, hN.h3a, hN.h28, hN.h29, hN.h30, hN.c3_1, hN.c3_2, hN.c4_0, hN.c4_3, hN.h32, hN.c6_5, hN.c7_4, hN.c7_6, (fun _ => rfl), hN.h36, hN.h37, (fun _ => rfl), hN.c10_9, hN.c11_7, hN.c11_10, hN.c12_11⟩
              | 9, ho =>
                obtain rfl := Option.some.inj ho
                refine rstep_value rfl (v := .int .i64 (p : Nat)) (w' := wx) ?_ ?_
                · simp only [hole, List.foldl_cons, List.foldl_nil, List.setIfInBounds_toArray, List.set_cons_zero, List.set_cons_succ]
                  go_simp
                · exact ⟨hN.hb, hN.h27, hN.h31, hN.h33, hN.h34, hN.h38, hN.h3, hN.h3a, hN.h28, hN.h29, hN.h30, hN.c3_1, hN.c3_2, hN.c4_0, hN.c4_3, hN.h32, hN.c6_5, hN.c7_4, hN.c7_6, hN.h35, (fun _ => rfl), hN.h37, hN.c10_8, (fun _ => rfl), hN.c11_7, hN.c11_10, hN.c12_11⟩
              | 10, ho =>
                obtain rfl := Option.some.inj ho
                have e35 := hN.h35 (hdep ⟨8, .data⟩ (by simp) rfl)
                have e36 := hN.h36 (hdep ⟨9, .data⟩ (by simp) rfl)
                refine rstep_value rfl (v := v37of a L c p) (w' := wx) ?_ ?_
                · simp only [hole, List.foldl_cons, List.foldl_nil, List.setIfInBounds_toArray, List.set_cons_zero, List.set_cons_succ]
                  unfold v37of
                  rcases ha with ⟨rfl, hL0, rfl⟩ | ⟨g, rfl⟩
                  · obtain rfl : p = 0 := by omega
                    subst hL0
                    go_simp
                  · by_cases hcp : c = p
                    · subst hcp
                      go_simp
                    · have hcp2 : ¬ c - p = 0 := by omega
                      go_simp
                · exact ⟨hN.hb, hN.h27, hN.h31, hN.h33, hN.h34, hN.h38, hN.h3, hN.h3a, hN.h28, hN.h29, hN.h30, hN.c3_1, hN.c3_2, hN.c4_0, hN.c4_3, hN.h32, hN.c6_5, hN.c7_4, hN.c7_6, hN.h35, hN.h36, (fun _ => rfl), (fun _ => hdep ⟨8, .data⟩ (by simp) rfl), (fun _ => hdep ⟨9, .data⟩ (by simp) rfl), hN.c11_7, (fun _ => rfl), hN.c12_11⟩
              | 11, ho =>
                obtain rfl := Option.some.inj ho
                have e37 := hN.h37 (hdep ⟨10, .data⟩ (by simp) rfl)
                have o34 := hN.h34 (hdep ⟨7, .data⟩ (by simp) rfl) hdi
                have hsz := hN.hb.size
                obtain ⟨v', w', hrun, r1, r2, r3⟩ := run_appI (ty := 22) o34 (H37.out.below hN.hb) hz37 hsz (by have h9 := List.length_take_le p cur; rw [List.length_append, toZ_length]; simp only [List.length_cons, List.length_nil]; omega) (by have h8 := HL.out; rw [toZ_length, List.length_drop]; omega)
                refine rstep_value rfl (v := v') (w' := w') ?_ ?_
                · simp only [hole, List.foldl_cons, List.foldl_nil, List.setIfInBounds_toArray, List.set_cons_zero, List.set_cons_succ]
                  simp [execOp, resolve, invoke, builtin, Act.eval, e37, Result.andThen]
                  rw [hrun]
                · exact ⟨hN.hb.trans r3, (fun _ h => by have h2 := hN.c7_4 (hdep ⟨7, .data⟩ (by simp) rfl); rw [show d 4 = false from h] at h2; cases h2), (fun _ h => by have h2 := hdep ⟨7, .data⟩ (by simp) rfl; rw [show d 7 = false from h] at h2; cases h2), (fun _ h => by have h2 := hdep ⟨7, .data⟩ (by simp) rfl; rw [show d 7 = false from h] at h2; cases h2), (fun _ h => by simp at h), (fun _ => by rw [toZ_append]; have := r1; rw [List.append_assoc] at this; exact this), (fun h => by have h2 := hN.c12_11 h; rw [hdi] at h2; cases h2), hN.h3a, hN.h28, hN.h29, hN.h30, hN.c3_1, hN.c3_2, hN.c4_0, hN.c4_3, hN.h32, hN.c6_5, hN.c7_4, hN.c7_6, hN.h35, hN.h36, hN.h37, hN.c10_8, hN.c10_9, (fun _ => hdep ⟨7, .data⟩ (by simp) rfl), (fun _ => hdep ⟨10, .data⟩ (by simp) rfl), (fun _ => rfl)⟩
              | 12, ho =>
                obtain rfl := Option.some.inj ho
                refine rstep_value rfl (v := y 38) (w' := wx) ?_ ?_
                · simp only [hole, List.foldl_cons, List.foldl_nil, List.setIfInBounds_toArray, List.set_cons_zero, List.set_cons_succ]
                  go_simp
                · exact ⟨hN.hb, hN.h27, hN.h31, hN.h33, hN.h34, hN.h38, (fun _ => rfl), (fun h => by simp at h), hN.h28, hN.h29, hN.h30, hN.c3_1, hN.c3_2, hN.c4_0, hN.c4_3, hN.h32, hN.c6_5, hN.c7_4, hN.c7_6, hN.h35, hN.h36, hN.h37, hN.c10_8, hN.c10_9, hN.c11_7, hN.c11_10, (fun _ => hdep ⟨11, .data⟩ (by simp) rfl)⟩
            · intro d y wx hd hN
              have e28 := hN.h28 (hd 1 (by simp))
              have e29 := hN.h29 (hd 2 (by simp))
              have e30 := hN.h30 (hd 3 (by simp))
              have e32 := hN.h32 (hd 5 (by simp))
              have e35 := hN.h35 (hd 8 (by simp))
              have e36 := hN.h36 (hd 9 (by simp))
              have e37 := hN.h37 (hd 10 (by simp))
              have e3 := hN.h3 (hd 12 (by simp))
              have o38 := hN.h38 (hd 11 (by simp))
              have hb38 := hN.hb
              clear hN
              simp only [hole, List.foldl_cons, List.foldl_nil, List.setIfInBounds_toArray, List.set_cons_zero, List.set_cons_succ, e3, e28, e29, e30, e32, e35, e36, e37]
              clear e3 e28 e29 e30 e32 e35 e36 e37
              have HO38 := Lib.hid o38
              have HB38 := Lib.hid hb38
              clear o38 hb38
              go_wp2
              have h1 := HBW.out.size
              refine ⟨⟨k + 1, by omega, by push_cast; rfl, ?_, HBW.out.trans (HB38.out.mono h1)⟩, by simp [intOf]; omega⟩
              rw [HR.out, insZ_split x cur p (by have := HL.out; omega) HBF.out (fun h => hstop (by have := HL.out; omega))]
              exact HO38.out.mono h1
        · have hpi : ¬ (p : Int) < (L : Int) := by omega
          have HA := Lib.hid ha
          clear ha
          go_upto_region 8 with (fail)
          have ha := HA.out
          have hz30 := HZ30.out
          have hz37 := HZ37.out
          have hstop : p < L → x < cur.getD p 0 := fun h => absurd h hpl
          obtain ⟨W0, hW0⟩ : ∃ W0, wr.drew = W0 := ⟨_, rfl⟩
          have hs0 : W0.heap.size = wr.heap.size := by rw [← hW0]; rfl
          have H30 := Lib.hid (show Ints W0 (.slice a p c) (toZ (cur.take p)) by rw [← hW0]; exact HI30.out)
          have H37 := Lib.hid (show Ints W0 (v37of a L c p) (toZ (cur.drop p)) by rw [← hW0]; exact HI37.out)
          have HBW := Lib.hid (show Below w.heap.size w W0 by rw [← hW0]; exact HB.out.drew)
          have H0 := Lib.hid hW0
          clear hW0
          refine wp_region_sched (by kernel_rfl) [3, 27, 28, 29, 30, 31, 32, 33, 34, 35, 36, 37, 38] (by kernel_rfl) (Z65 W0 (.slice a L c) (.slice a p c) (v37of a L c p) cur p x) ?_ ?_ ?_
          · rw [H0.out]
            refine ⟨Below.refl _ _, ?_, ?_, ?_, ?_, ?_, ?_, fun _ => rfl, ?_, ?_, ?_, ?_, ?_, ?_, ?_, ?_, ?_, ?_, ?_, ?_, ?_, ?_, ?_, ?_, ?_, ?_, ?_⟩ <;> exact fun h => by cases h
          · intro i' o ho d y wx hdi hdep hN
            match i', ho with
            | 0, ho =>
              obtain rfl := Option.some.inj ho
              refine rstep_value rfl (v := .slice (some ⟨wx.heap.size, 0, none⟩) 0 0) (w' := wx.alloc (.cells #[] 3)) ?_ ?_
              · simp only [hole, List.foldl_cons, List.foldl_nil, List.setIfInBounds_toArray, List.set_cons_zero, List.set_cons_succ]
                go_simp
              · exact ⟨below_alloc hN.hb _, (fun _ _ => own_empty wx hN.hb.size), (fun h => by have h2 := hN.c4_0 h; rw [hdi] at h2; cases h2), (fun h h' => by obtain ⟨g, h1, h2, -⟩ := hN.h33 h h'; exact ⟨g, h1, h2.alloc _, fun _ _ e => by have hl := h2.lt; have e2 : some wx.heap.size = some g := e; cases e2; omega⟩), (fun h => by have h2 := hN.c4_0 (hN.c7_4 h); rw [hdi] at h2; cases h2), (fun h => by have h2 := hN.c4_0 (hN.c7_4 (hN.c11_7 h)); rw [hdi] at h2; cases h2), hN.h3, hN.h3a, hN.h28, hN.h29, hN.h30, hN.c3_1, hN.c3_2, (fun _ => rfl), hN.c4_3, hN.h32, hN.c6_5, hN.c7_4, hN.c7_6, hN.h35, hN.h36, hN.h37, hN.c10_8, hN.c10_9, hN.c11_7, hN.c11_10, hN.c12_11⟩
            | 1, ho =>
              obtain rfl := Option.some.inj ho
              have d12 : d 12 = false := Bool.eq_false_iff.2 fun h => by have h2 := hN.all h; rw [hdi] at h2; simp at h2
              have e3 := hN.h3a d12
              refine rstep_value rfl (v := .slice a L c) (w' := wx) ?_ ?_
              · simp only [hole, List.foldl_cons, List.foldl_nil, List.setIfInBounds_toArray, List.set_cons_zero, List.set_cons_succ]
                go_simp
              · exact ⟨hN.hb, hN.h27, hN.h31, hN.h33, hN.h34, hN.h38, hN.h3, hN.h3a, (fun _ => rfl), hN.h29, hN.h30, (fun _ => rfl), hN.c3_2, hN.c4_0, hN.c4_3, hN.h32, hN.c6_5, hN.c7_4, hN.c7_6, hN.h35, hN.h36, hN.h37, hN.c10_8, hN.c10_9, hN.c11_7, hN.c11_10, hN.c12_11⟩
            | 2, ho =>
              obtain rfl := Option.some.inj ho
              refine rstep_value rfl (v := .int .i64 (p : Nat)) (w' := wx) ?_ ?_
              · simp only [hole, List.foldl_cons, List.foldl_nil, List.setIfInBounds_toArray, List.set_cons_zero, List.set_cons_succ]
                go_simp
              · exact ⟨hN.hb, hN.h27, hN.h31, hN.h33, hN.h34, hN.h38, hN.h3, hN.h3a, hN.h28, (fun _ => rfl), hN.h30, hN.c3_1, (fun _ => rfl), hN.c4_0, hN.c4_3, hN.h32, hN.c6_5, hN.c7_4, hN.c7_6, hN.h35, hN.h36, hN.h37, hN.c10_8, hN.c10_9, hN.c11_7, hN.c11_10, hN.c12_11⟩
            | 3, ho =>
              obtain rfl := Option.some.inj ho
              have e28 := hN.h28 (hdep ⟨1, .data⟩ (by simp) rfl)
              have e29 := hN.h29 (hdep ⟨2, .data⟩ (by simp) rfl)
              refine rstep_value rfl (v := .slice a p c) (w' := wx) ?_ ?_
              · simp only [hole, List.foldl_cons, List.foldl_nil, List.setIfInBounds_toArray, List.set_cons_zero, List.set_cons_succ]
                rcases ha with ⟨rfl, hL0, rfl⟩ | ⟨g, rfl⟩
                · obtain rfl : p = 0 := by omega
                  subst hL0
                  go_simp
                · go_simp
              · exact ⟨hN.hb, hN.h27, hN.h31, hN.h33, hN.h34, hN.h38, hN.h3, hN.h3a, hN.h28, hN.h29, (fun _ => rfl), (fun _ => hdep ⟨1, .data⟩ (by simp) rfl), (fun _ => hdep ⟨2, .data⟩ (by simp) rfl), hN.c4_0, (fun _ => rfl), hN.h32, hN.c6_5, hN.c7_4, hN.c7_6, hN.h35, hN.h36, hN.h37, hN.c10_8, hN.c10_9, hN.c11_7, hN.c11_10, hN.c12_11⟩
            | 4, ho =>
              obtain rfl := Option.some.inj ho
              have e30 := hN.h30 (hdep ⟨3, .data⟩ (by simp) rfl)
              have o27 := hN.h27 (hdep ⟨0, .data⟩ (by simp) rfl) hdi
              have hsz := hN.hb.size
              obtain ⟨v', w', hrun, r1, r2, r3⟩ := run_appI (ty := 22) o27 (H30.out.below hN.hb) hz30 (by omega) (by simp) (by rw [toZ_length, List.length_take]; omega)
              refine rstep_value rfl (v := v') (w' := w') ?_ ?_
              · simp only [hole, List.foldl_cons, List.foldl_nil, List.setIfInBounds_toArray, List.set_cons_zero, List.set_cons_succ]
                simp [execOp, resolve, invoke, builtin, Act.eval, e30, Result.andThen]
                rw [hrun]
              · exact ⟨hN.hb.trans r3, (fun _ h => by simp at h), (fun _ _ => r1), (fun h h' => by obtain ⟨g, h1, h2, h3⟩ := hN.h33 h h'; exact ⟨g, h1, h2.kept r2 (Ne.symm (h3 (hdep ⟨0, .data⟩ (by simp) rfl) hdi)), fun _ h => by simp at h⟩), (fun h => by have h2 := hN.c7_4 h; rw [hdi] at h2; cases h2), (fun h => by have h2 := hN.c7_4 (hN.c11_7 h); rw [hdi] at h2; cases h2), hN.h3, hN.h3a, hN.h28, hN.h29, hN.h30, hN.c3_1, hN.c3_2, (fun _ => hdep ⟨0, .data⟩ (by simp) rfl), (fun _ => hdep ⟨3, .data⟩ (by simp) rfl), hN.h32, hN.c6_5, (fun _ => rfl), hN.c7_6, hN.h35, hN.h36, hN.h37, hN.c10_8, hN.c10_9, hN.c11_7, hN.c11_10, hN.c12_11⟩
            | 5, ho =>
              obtain rfl := Option.some.inj ho
              refine rstep_value rfl (v := .int .i64 (x : Int)) (w' := wx) ?_ ?_
              · simp only [hole, List.foldl_cons, List.foldl_nil, List.setIfInBounds_toArray, List.set_cons_zero, List.set_cons_succ]
                go_simp
              · exact ⟨hN.hb, hN.h27, hN.h31, hN.h33, hN.h34, hN.h38, hN.h3, hN.h3a, hN.h28, hN.h29, hN.h30, hN.c3_1, hN.c3_2, hN.c4_0, hN.c4_3, (fun _ => rfl), (fun _ => rfl), hN.c7_4, hN.c7_6, hN.h35, hN.h36, hN.h37, hN.c10_8, hN.c10_9, hN.c11_7, hN.c11_10, hN.c12_11⟩
            | 6, ho =>
              obtain rfl := Option.some.inj ho
              have e32 := hN.h32 (hdep ⟨5, .data⟩ (by simp) rfl)
              refine rstep_value rfl (v := .slice (some ⟨wx.heap.size, 0, none⟩) 1 1) (w' := wx.alloc (.cells #[.int .i64 (x : Int)] 3)) ?_ ?_
              · simp only [hole, List.foldl_cons, List.foldl_nil, List.setIfInBounds_toArray, List.set_cons_zero, List.set_cons_succ]
                go_simp
              · exact ⟨below_alloc hN.hb _, (fun h h' => (hN.h27 h h').alloc _), (fun h h' => (hN.h31 h h').alloc _), (fun _ _ => ⟨_, rfl, Boxed.new _ _ _, fun h h' e => by have := ((hN.h27 h h').lt _ e).2; omega⟩), (fun h => by have h2 := hN.c7_6 h; rw [hdi] at h2; cases h2), (fun h => by have h2 := hN.c7_6 (hN.c11_7 h); rw [hdi] at h2; cases h2), hN.h3, hN.h3a, hN.h28, hN.h29, hN.h30, hN.c3_1, hN.c3_2, hN.c4_0, hN.c4_3, hN.h32, (fun _ => hdep ⟨5, .data⟩ (by simp) rfl), hN.c7_4, (fun _ => rfl), hN.h35, hN.h36, hN.h37, hN.c10_8, hN.c10_9, hN.c11_7, hN.c11_10, hN.c12_11⟩
            | 7, ho =>
              obtain rfl := Option.some.inj ho
              have o31 := hN.h31 (hdep ⟨4, .data⟩ (by simp) rfl) hdi
              obtain ⟨g, e33, xg, -⟩ := hN.h33 (hdep ⟨6, .data⟩ (by simp) rfl) hdi
              have hsz := hN.hb.size
              obtain ⟨v', w', hrun, r1, r2, r3⟩ := run_app1 (P := Tryd.prog) (t := 22) (ty := 22) Tryd.underlying22 info3 o31 (ad := ⟨g, 0, none⟩) (c := 1) xg.cell (by rw [toZ_length, List.length_take]; omega) hsz
              refine rstep_value rfl (v := v') (w' := w') ?_ ?_
              · simp only [hole, List.foldl_cons, List.foldl_nil, List.setIfInBounds_toArray, List.set_cons_zero, List.set_cons_succ]
                simp [execOp, resolve, invoke, builtin, Act.eval, e33, Result.andThen]
                rw [hrun]
              · exact ⟨hN.hb.trans r3, (fun _ h => by have h2 := hdep ⟨4, .data⟩ (by simp) rfl; rw [show d 4 = false from h] at h2; cases h2), (fun _ h => by simp at h), (fun _ h => by simp at h), (fun _ _ => r1), (fun h => by have h2 := hN.c11_7 h; rw [hdi] at h2; cases h2), hN.h3, hN.h3a, hN.h28, hN.h29, hN.h30, hN.c3_1, hN.c3_2, hN.c4_0, hN.c4_3, hN.h32, hN.c6_5, (fun _ => hdep ⟨4, .data⟩ (by simp) rfl), (fun _ => hdep ⟨6, .data⟩ (by simp) rfl), hN.h35, hN.h36, hN.h37, hN.c10_8, hN.c10_9, (fun _ => rfl), hN.c11_10, hN.c12_11⟩
            | 8, ho =>
              obtain rfl := Option.some.inj ho
              have d12 : d 12 = false := Bool.eq_false_iff.2 fun h => by have h2 := hN.all2 h; rw [hdi] at h2; simp at h2
              have e3 := hN.h3a d12
              refine rstep_value rfl (v := .slice a L c) (w' := wx) ?_ ?_
              · simp only [hole, List.foldl_cons, List.foldl_nil, List.setIfInBounds_toArray, List.set_cons_zero, List.set_cons_succ]
                go_simp
              · exact ⟨hN.hb, hN.h27, hN.h31, hN.h33, hN.h34, hN.h38, hN.h3, hN.h3a, hN.h28, hN.h29, hN.h30, hN.c3_1, hN.c3_2, hN.c4_0, hN.c4_3, hN.h32, hN.c6_5, hN.c7_4, hN.c7_6, (fun _ => rfl), hN.h36, hN.h37, (fun _ => rfl), hN.c10_9, hN.c11_7, hN.c11_10, hN.c12_11⟩
            | 9, ho =>
              obtain rfl := Option.some.inj ho
              refine rstep_value rfl (v := .int .i64 (p : Nat)) (w' := wx) ?_ ?_
              · simp only [hole, List.foldl_cons, List.foldl_nil, List.setIfInBounds_toArray, List.set_cons_zero, List.set_cons_succ]
                go_simp
              · exact ⟨hN.hb, hN.h27, hN.h31, hN.h33, hN.h34, hN.h38, hN.h3, hN.h3a, hN.h28, hN.h29, hN.h30, hN.c3_1, hN.c3_2, hN.c4_0, hN.c4_3, hN.h32, hN.c6_5, hN.c7_4, hN.c7_6, hN.h35, (fun _ => rfl), hN.h37, hN.c10_8, (fun _ => rfl), hN.c11_7, hN.c11_10, hN.c12_11⟩
            | 10, ho =>
              obtain rfl := Option.some.inj ho
              have e35 := hN.h35 (hdep ⟨8, .data⟩ (by simp) rfl)
              have e36 := hN.h36 (hdep ⟨9, .data⟩ (by simp) rfl)
              refine rstep_value rfl (v := v37of a L c p) (w' := wx) ?_ ?_
              · simp only [hole, List.foldl_cons, List.foldl_nil, List.setIfInBounds_toArray, List.set_cons_zero, List.set_cons_succ]
                unfold v37of
                rcases ha with ⟨rfl, hL0, rfl⟩ | ⟨g, rfl⟩
                · obtain rfl : p = 0 := by omega
                  subst hL0
                  go_simp
                · by_cases hcp : c = p
                  · subst hcp
                    go_simp
                  · have hcp2 : ¬ c - p = 0 := by omega
                    go_simp
              · exact ⟨hN.hb, hN.h27, hN.h31, hN.h33, hN.h34, hN.h38, hN.h3, hN.h3a, hN.h28, hN.h29, hN.h30, hN.c3_1, hN.c3_2, hN.c4_0, hN.c4_3, hN.h32, hN.c6_5, hN.c7_4, hN.c7_6, hN.h35, hN.h36, (fun _ => rfl), (fun _ => hdep ⟨8, .data⟩ (by simp) rfl), (fun _ => hdep ⟨9, .data⟩ (by simp) rfl), hN.c11_7, (fun _ => rfl), hN.c12_11⟩
            | 11, ho =>
              obtain rfl := Option.some.inj ho
              have e37 := hN.h37 (hdep ⟨10, .data⟩ (by simp) rfl)
              have o34 := hN.h34 (hdep ⟨7, .data⟩ (by simp) rfl) hdi
              have hsz := hN.hb.size
              obtain ⟨v', w', hrun, r1, r2, r3⟩ := run_appI (ty := 22) o34 (H37.out.below hN.hb) hz37 hsz (by have h9 := List.length_take_le p cur; rw [List.length_append, toZ_length]; simp only [List.length_cons, List.length_nil]; omega) (by have h8 := HL.out; rw [toZ_length, List.length_drop]; omega)
              refine rstep_value rfl (v := v') (w' := w') ?_ ?_
              · simp only [hole, List.foldl_cons, List.foldl_nil, List.setIfInBounds_toArray, List.set_cons_zero, List.set_cons_succ]
                simp [execOp, resolve, invoke, builtin, Act.eval, e37, Result.andThen]
                rw [hrun]
              · exact ⟨hN.hb.trans r3, (fun _ h => by have h2 := hN.c7_4 (hdep ⟨7, .data⟩ (by simp) rfl); rw [show d 4 = false from h] at h2; cases h2), (fun _ h => by have h2 := hdep ⟨7, .data⟩ (by simp) rfl; rw [show d 7 = false from h] at h2; cases h2), (fun _ h => by have h2 := hdep ⟨7, .data⟩ (by simp) rfl; rw [show d 7 = false from h] at h2; cases h2), (fun _ h => by simp at h), (fun _ => by rw [toZ_append]; have := r1; rw [List.append_assoc] at this; exact this), (fun h => by have h2 := hN.c12_11 h; rw [hdi] at h2; cases h2), hN.h3a, hN.h28, hN.h29, hN.h30, hN.c3_1, hN.c3_2, hN.c4_0, hN.c4_3, hN.h32, hN.c6_5, hN.c7_4, hN.c7_6, hN.h35, hN.h36, hN.h37, hN.c10_8, hN.c10_9, (fun _ => hdep ⟨7, .data⟩ (by simp) rfl), (fun _ => hdep ⟨10, .data⟩ (by simp) rfl), (fun _ => rfl)⟩
            | 12, ho =>
              obtain rfl := Option.some.inj ho
              refine rstep_value rfl (v := y 38) (w' := wx) ?_ ?_
              · simp only [hole, List.foldl_cons, List.foldl_nil, List.setIfInBounds_toArray, List.set_cons_zero, List.set_cons_succ]
                go_simp
              · exact ⟨hN.hb, hN.h27, hN.h31, hN.h33, hN.h34, hN.h38, (fun _ => rfl), (fun h => by simp at h), hN.h28, hN.h29, hN.h30, hN.c3_1, hN.c3_2, hN.c4_0, hN.c4_3, hN.h32, hN.c6_5, hN.c7_4, hN.c7_6, hN.h35, hN.h36, hN.h37, hN.c10_8, hN.c10_9, hN.c11_7, hN.c11_10, (fun _ => hdep ⟨11, .data⟩ (by simp) rfl)⟩
          · intro d y wx hd hN
            have e28 := hN.h28 (hd 1 (by simp))
            have e29 := hN.h29 (hd 2 (by simp))
            have e30 := hN.h30 (hd 3 (by simp))
            have e32 := hN.h32 (hd 5 (by simp))
            have e35 := hN.h35 (hd 8 (by simp))
            have e36 := hN.h36 (hd 9 (by simp))
            have e37 := hN.h37 (hd 10 (by simp))
            have e3 := hN.h3 (hd 12 (by simp))
            have o38 := hN.h38 (hd 11 (by simp))
            have hb38 := hN.hb
            clear hN
            simp only [hole, List.foldl_cons, List.foldl_nil, List.setIfInBounds_toArray, List.set_cons_zero, List.set_cons_succ, e3, e28, e29, e30, e32, e35, e36, e37]
            clear e3 e28 e29 e30 e32 e35 e36 e37
            have HO38 := Lib.hid o38
            have HB38 := Lib.hid hb38
            clear o38 hb38
            go_wp2
            have h1 := HBW.out.size
            refine ⟨⟨k + 1, by omega, by push_cast; rfl, ?_, HBW.out.trans (HB38.out.mono h1)⟩, by simp [intOf]; omega⟩
            rw [HR.out, insZ_split x cur p (by have := HL.out; omega) HBF.out (fun h => hstop (by have := HL.out; omega))]
            exact HO38.out.mono h1
    · obtain rfl : k = xs.length := by omega
      rw [List.take_length] at ho
      go_wp2
      go_ret
      exact ⟨_, rfl, ho, hb⟩
end Go.Proofs.YtlpnicfbgdfbnaaDoor
