/- S2: heights.steps, heights.steep: the walks. -/
import Derived.Test.YtlpnicfbgdfbnaaDoorS1
namespace Go.Proofs.YtlpnicfbgdfbnaaDoor
open Go.RowKit Go.Shelf
attribute [local go_sem] Oper.semAt_some

theorem dz_snoc (l : List Int) (k : Nat) (h : k < l.length) : dz 0 (l.take (k + 1)) = dz 0 (l.take k) ++ [l[k] - k] := by
  rw [List.take_succ_eq_append_getElem h, dz_append]
  have : (l.take k).length = k := by rw [List.length_take]; omega
  simp [dz, this]

theorem OwnI.kept {e : TypeId} {B : Nat} {w w' : World} {v : Value} {xs : List Int} {row : Option Nat} (h : OwnI e B w v xs) (hg : w.grownBy w' row) (hne : v.ownBlock = none ∨ v.ownBlock ≠ row) : OwnI e B w' v xs :=
  World.ownsRow.kept h hg hne

theorem toZ_eq (l : List Int) : toZ l = l := rfl

set_option maxRecDepth 20000 in
set_option maxHeartbeats 1000000 in
theorem steps_any (v : Value) (xs : List Int) (w : World) (hv : Ints w v xs) (h1 : 0 < xs.length) (h12 : xs.length ≤ 12) (hr : ∀ x ∈ xs, -100 ≤ x ∧ x ≤ 100) :
    Calls Tryd.prog 79 #[v] w fun e w' => ∃ v', e = .returned v' ∧ OwnI 3 w.heap.size w' v' (DifZ xs) ∧ Below w.heap.size w w' := by
  obtain ⟨a, c, rfl, hlen, hcl, hc⟩ := hv
  have HCC := Lib.hid hc
  have HR := Lib.hid hr
  clear hc hr
  go_enter Tryd.func79, Tryd.ntmps79
  go_wp2
  go_loopw [3, 8] (fun o ix wr => ∃ k : Nat, k ≤ xs.length ∧ ix = .int .i64 k ∧ OwnI 3 w.heap.size wr o (dz 0 (xs.take k)) ∧ Below w.heap.size w wr) (fun _ i _ => xs.length - (intOf i).toNat)
  case atStart => exact ⟨0, Nat.zero_le _, rfl, OwnI.nil _ _ _, Below.refl _ _⟩
  case round =>
    obtain ⟨k, hk, rfl, ho, hb⟩ := hrel
    by_cases hlt : k < xs.length
    · obtain ⟨b, off, rfl, hbl, hcell⟩ := HCC.out (by intro e; rw [e] at hlt; simp at hlt)
      have hcx := (hb.cell (p := ⟨b, off + k, none⟩) hbl).trans (hcell k hlt)
      have hx6 := HR.out _ (List.getElem_mem hlt)
      have H := Lib.hid (dz_snoc xs k hlt)
      obtain ⟨x, hx⟩ : ∃ x, xs[k] = x := ⟨_, rfl⟩
      rw [hx] at hcx hx6 H
      have hle := hb.size
      obtain ⟨hx1, hx2⟩ := hx6
      have hlk : (dz 0 (xs.take k)).length ≤ 12 := by rw [dz_length, List.length_take]; omega
      have hwr : IntKind.i64.wrap (x - (k : Int)) = x - k := IntWalk.i64_in _ (by omega)
      clear hx hcell
      go_wp2_with (at_builtin; refine wpList_app1 rfl _ _ 22 rfl 3 Tryd.underlying22 info3 w.heap.size _ (dz 0 (xs.take k)) _ rfl (ho.alloc _) ⟨wr.heap.size, 0, none⟩ 1 rfl (cell_new1 _ _ _) (by omega) (by simp; omega) ?_; intro v' w1 ho1 hg1 hb1; clear hg1)
      go_roundw
      case rel => exact ⟨k + 1, by omega, by go_num, by rw [H.out]; exact ho1, (hb.alloc hle _).trans hb1⟩
      case measure => simp [intOf]; omega
    · obtain rfl : k = xs.length := by omega
      rw [List.take_length] at ho
      have S := Lib.hid (sortI_any ho (by rw [dz_length]; exact h1) (by rw [dz_length]; omega))
      go_wp2_with (go_at_call 99; refine S.out.mono ?_; rintro e w1 ⟨rfl, ho1, hg1⟩)
      go_ret
      exact ⟨_, rfl, ho1, hb.grown hg1 hb.size (fun j hj => (ho.lt j hj).1)⟩

/-- The search's state behind some rounds. -/
theorem steepP_step {z m i : Nat} {left out : List Int} : steepP z (m + 1) i left out = if i < z then (if (-(i : Int)) ∈ left then steepP z m (i + 1) (left.eraseIdx (left.idxOf (-(i : Int)))) (out ++ [0]) else none) else (if left.getD 0 0 + (i : Int) < 1 ∨ (0 < i ∧ left.getD 0 0 + (i : Int) ≤ out.getD (i - 1) 0) then none else steepP z m (i + 1) (left.eraseIdx 0) (out ++ [left.getD 0 0 + (i : Int)])) := rfl

/-- What heights.steep returns. -/
def SteepPost (xs : List Int) (z : Nat) (w w' : World) (v' : Value) (b : Bool) : Prop := ((SteepZ xs z = none ∧ b = false ∧ v' = .slice none 0 0) ∨ ∃ s, SteepZ xs z = some s ∧ b = true ∧ OwnI 3 w.heap.size w' v' s) ∧ Below w.heap.size w w'
def SteepOut (xs : List Int) (z : Nat) (w : World) (e : Ending) (w' : World) : Prop := ∃ v' b, e = .returned (.tuple #[v', .bool b]) ∧ SteepPost xs z w w' v' b

/-- What one state of the search holds. -/
structure StI (xs : List Int) (z : Nat) (B H : Nat) (g : Nat) (k : Nat) (lf o : Value) (L O : List Int) (wr : World) : Prop where
  eq : SteepZ xs z = steepP z (xs.length - k) k L O
  ll : L.length = xs.length - k
  lo : O.length = k
  so : L.Pairwise (· ≤ ·)
  rl : ∀ y ∈ L, -200 ≤ y ∧ y ≤ 200
  ro : ∀ y ∈ O, -300 ≤ y ∧ y ≤ 300
  hl : OwnI 3 B wr lf L
  hg : lf.ownBlock = some g
  hH : g < H
  hs : H ≤ wr.heap.size
  ho : OwnI 3 H wr o O

theorem dz_mem : ∀ (l : List Int) (k : Nat) (y : Int), y ∈ dz k l → ∃ x ∈ l, ∃ j : Nat, j < k + l.length ∧ y = x - j
  | [], k, y, h => by simp [dz] at h
  | x :: l, k, y, h => by
    simp only [dz, List.mem_cons] at h
    rcases h with rfl | h
    · exact ⟨x, by simp, k, by simp, rfl⟩
    · obtain ⟨x', h1, j, h2, h3⟩ := dz_mem l (k + 1) y h
      exact ⟨x', by simp [h1], j, by simp; omega, h3⟩
theorem DifZ_range {xs : List Int} (h12 : xs.length ≤ 12) (hr : ∀ x ∈ xs, -100 ≤ x ∧ x ≤ 100) : ∀ y ∈ DifZ xs, -200 ≤ y ∧ y ≤ 200 := by
  intro y hy
  have hy' : y ∈ dz 0 xs := (riseZ_perm _).mem_iff.mp hy
  obtain ⟨x, hx, j, hj, rfl⟩ := dz_mem _ _ _ hy'
  have := hr x hx
  omega
theorem own_block {e : TypeId} {B : Nat} {w : World} {v : Value} {L : List Int} (h : OwnI e B w v L) (hl : 0 < L.length) : ∃ g, v.ownBlock = some g ∧ B ≤ g ∧ g < w.heap.size := by
  obtain ⟨g, cap, cur, rfl, h1, h2, _⟩ := own_open h hl
  exact ⟨g, rfl, h1, h2⟩

theorem mem_eraseIdx_of {L : List Int} {p : Nat} {y : Int} (h : y ∈ L.eraseIdx p) : y ∈ L := List.mem_of_mem_eraseIdx h

theorem OwnI.kept0 {e : TypeId} {B : Nat} {w w' : World} {v : Value} {xs : List Int} (h : OwnI e B w v xs) (hg : w.grownBy w' none) : OwnI e B w' v xs :=
  h.kept hg (by cases v.ownBlock <;> simp)
theorem below_round {B H : Nat} {w wr w3 w4 : World} {o : Obj} {row : Option Nat} (hb : Below B w wr) (hBH : B ≤ H) (hw : B ≤ wr.heap.size) (hb3 : Below H (wr.alloc o) w3) (hg4 : w3.grownBy w4 row) (hr : ∀ k, row = some k → B ≤ k) : Below B w w4 :=
  ((hb.alloc hw o).trans (hb3.mono hBH)).grown hg4 (by have := hb3.size; simp at this; omega) hr
theorem StI.ne {xs : List Int} {z B H g k : Nat} {lf o : Value} {L O : List Int} {wr : World} (st : StI xs z B H g k lf o L O wr) : lf.ownBlock = none ∨ lf.ownBlock ≠ o.ownBlock := by
  refine .inr fun h => ?_
  have := st.ho.lt g (h ▸ st.hg)
  have := st.hH
  omega
theorem StI.next {xs : List Int} {z B H g k : Nat} {lf o lf' o' : Value} {L O : List Int} {wr w3 w4 : World} (st : StI xs z B H g k lf o L O wr) (hk : k < xs.length) (p : Nat) (hp : p < L.length) (x : Int)
    (hx : steepP z (xs.length - k) k L O = steepP z (xs.length - k - 1) (k + 1) (L.eraseIdx p) (O ++ [x])) (rx : -300 ≤ x ∧ x ≤ 300)
    (ho3 : OwnI 3 H w3 o' (O ++ [x])) (hs3 : wr.heap.size ≤ w3.heap.size) (hl4 : OwnI 3 B w4 lf' (L.eraseIdx p)) (hob : lf'.ownBlock = lf.ownBlock) (hgr : w3.grownBy w4 lf.ownBlock) :
    StI xs z B H g (k + 1) lf' o' (L.eraseIdx p) (O ++ [x]) w4 where
  eq := by rw [st.eq, hx, Nat.sub_sub]
  ll := by have := st.ll; rw [List.length_eraseIdx_of_lt hp]; omega
  lo := by simp [st.lo]
  so := List.Pairwise.sublist (List.eraseIdx_sublist _ _) st.so
  rl := fun y hy => st.rl y (mem_eraseIdx_of hy)
  ro := fun y hy => by
    rcases List.mem_append.mp hy with h | h
    · exact st.ro y h
    · rw [List.mem_singleton.mp h]; exact rx
  hl := hl4
  hg := hob.trans st.hg
  hH := st.hH
  hs := Nat.le_trans st.hs (Nat.le_trans hs3 hgr.size)
  ho := ho3.kept hgr (.inr fun h => by
    have := ho3.lt g (h.trans st.hg)
    have := st.hH
    omega)

set_option maxRecDepth 20000 in
set_option maxHeartbeats 4000000 in
theorem steep_any (v : Value) (xs : List Int) (z : Nat) (w : World) (hv : Ints w v xs) (h1 : 0 < xs.length) (h12 : xs.length ≤ 12) (hz : z ≤ 13) (hr : ∀ x ∈ xs, -100 ≤ x ∧ x ≤ 100) :
    Calls Tryd.prog 66 #[v, .int .i64 (z : Nat)] w fun e w' => SteepOut xs z w e w' := by
  have T := Lib.hid (steps_any v xs w hv h1 h12 hr)
  have HD := Lib.hid (DifZ_range h12 hr)
  obtain ⟨a, c, rfl, hlen, hcl, hc⟩ := hv
  clear hc hr
  go_enter Tryd.func66, Tryd.ntmps66
  go_wp2_with (go_at_call 79; refine T.out.mono ?_; rintro e w1 ⟨v1, rfl, ho1, hb1⟩)
  obtain ⟨g, hg, hgB, hgH⟩ := own_block ho1 (by rw [DifZ_length]; exact h1)
  have HS1 := hb1.size
  go_loopw [6, 7, 17] (fun lf o ix wr => ∃ k : Nat, k ≤ xs.length ∧ ix = .int .i64 k ∧ (∃ L O, StI xs z w.heap.size w1.heap.size g k lf o L O wr) ∧ Below w.heap.size w wr) (fun _ _ i _ => xs.length - (intOf i).toNat)
  case atStart => exact ⟨0, Nat.zero_le _, rfl, ⟨DifZ xs, [], rfl, DifZ_length xs, rfl, riseZ_sorted _, HD.out, (by simp), ho1, hg, hgH, Nat.le_refl _, OwnI.nil _ _ _⟩, hb1⟩
  case round =>
    obtain ⟨k, hk, rfl, ⟨L, O, st⟩, hb⟩ := hrel
    by_cases hlt : k < xs.length
    · have hki : (k : Int) < (xs.length : Int) := by omega
      have hll := st.ll
      have hL0 : 0 < L.length := by omega
      obtain ⟨g', cap, cur, rfl, hgB', hg'l, _⟩ := own_open st.hl hL0
      obtain rfl : g' = g := by simpa [Value.ownBlock] using st.hg
      have HST := Lib.hid st
      by_cases hkz : k < z
      · have hkzi : (k : Int) < (z : Int) := by omega
        have hneg : IntKind.i64.wrap (-(k : Int)) = -k := IntWalk.i64_in _ (by omega)
        have S := Lib.hid (bsearchI_any st.hl hL0 (by omega) st.so (-(k : Int)))
        by_cases hm : (-(k : Int)) ∈ L
        · have HX := Lib.hid (show steepP z (xs.length - k) k L O = steepP z (xs.length - k - 1) (k + 1) (L.eraseIdx (L.idxOf (-(k : Int)))) (O ++ [0]) by rw [show xs.length - k = (xs.length - k - 1) + 1 by omega, steepP_step, if_pos hkz, if_pos hm]; rfl)
          have hct : L.contains (-(k : Int)) = true := by simpa using hm
          have S' := S.out
          rw [hct, idx_count _ _ st.so hm] at S'
          have hpl := List.idxOf_lt_length_of_mem hm
          have hgt := List.getElem_idxOf hpl
          obtain ⟨p, hp⟩ : ∃ p, L.idxOf (-(k : Int)) = p := ⟨_, rfl⟩
          simp only [hp] at S' hpl hgt HX
          have S2 := Lib.hid S'
          have hpi : (p : Int) < (L.length : Int) := by omega
          have hLb : (L.length : Int) ≤ 12 := by omega
          have HCE := Lib.hid (fun (w2 : World) (hg2 : wr.grownBy w2 none) => ((st.hl.kept0 hg2).cellI p hpl).trans (by rw [hgt]))
          have hw0 : IntKind.i64.wrap (-(k : Int) + k) = 0 := by rw [show -(k : Int) + k = 0 by omega]; rfl
          have HOL := Lib.hid (show O.length ≤ 12 by have := st.lo; omega)
          have HSS := Lib.hid st.hs
          have HLT := Lib.hid hlt
          have HPL := Lib.hid hpl
          have HHB := Lib.hid hb
          clear st hll hm hct S' S hgt hp hpl hlt hb hkz
          go_wp2_with (first
            | (go_at_call 80; refine S2.out.mono ?_; rintro e w2 ⟨rfl, hg2⟩; have hc2 := HCE.out w2 hg2)
            | (at_builtin; refine wpList_app1 rfl _ _ 60 rfl 3 Tryd.underlying60 info3 w1.heap.size _ O _ rfl ((HST.out.ho.kept0 hg2).alloc _) ⟨w2.heap.size, 0, none⟩ 1 rfl (cell_new1 _ _ _) (by have := HOL.out; omega) (by have := HSS.out; have := hg2.size; simp; omega) ?_; intro v' w3 ho3 hg3 hb3)
            | (go_at_call 81; refine (deleteI_any (((HST.out.hl.kept0 hg2).alloc _).kept hg3 HST.out.ne) p HPL.out _ _ (by omega) (by omega)).mono ?_; rintro e w4 ⟨v4, rfl, ho4, hob4, hg4⟩))
          go_roundw
          case rel => exact ⟨k + 1, HLT.out, by go_num, ⟨_, _, HST.out.next HLT.out p HPL.out 0 HX.out (by omega) ho3 (by have := hg2.size; have := hg3.size; simp at this; omega) ho4 hob4 hg4⟩, below_round (HHB.out.grown hg2 HHB.out.size (by simp)) HS1 (Nat.le_trans HHB.out.size hg2.size) hb3 hg4 (fun j hj => by have := HST.out.hg.symm.trans hj; simp at this; omega)⟩
          case measure => have := HLT.out; simp [intOf]; omega
        · have HF := Lib.hid (show SteepZ xs z = none by rw [st.eq, show xs.length - k = (xs.length - k - 1) + 1 by omega, steepP_step, if_pos hkz, if_neg hm])
          have hco : L.contains (-(k : Int)) = false := by simpa using hm
          have S' := S.out
          rw [hco] at S'
          have S2 := Lib.hid S'
          clear st hll hm hco S' S
          go_wp2_with (go_at_call 80; refine S2.out.mono ?_; rintro e w2 ⟨rfl, hg2⟩)
          go_ret2
          exact ⟨_, _, rfl, .inl ⟨HF.out, rfl, rfl⟩, hb.grown hg2 hb.size (by simp)⟩
      · have hzk : (z : Int) ≤ (k : Int) := by omega
        have hy0 := st.rl _ (List.getElem_mem hL0)
        have hc0 := st.hl.cellI 0 hL0
        have hgd : L.getD 0 0 = L[0] := getD_atZ hL0
        have HX := Lib.hid (show steepP z (xs.length - k) k L O = if L.getD 0 0 + (k : Int) < 1 ∨ (0 < k ∧ L.getD 0 0 + (k : Int) ≤ O.getD (k - 1) 0) then none else steepP z (xs.length - k - 1) (k + 1) (L.eraseIdx 0) (O ++ [L.getD 0 0 + (k : Int)]) by rw [show xs.length - k = (xs.length - k - 1) + 1 by omega, steepP_step, if_neg hkz]; rfl)
        obtain ⟨y, hy⟩ : ∃ y, L[0] = y := ⟨_, rfl⟩
        rw [hy] at hy0 hc0 hgd
        rw [hgd] at HX
        obtain ⟨hy1, hy2⟩ := hy0
        have hrx : -300 ≤ y + (k : Int) ∧ y + (k : Int) ≤ 300 := by omega
        obtain ⟨x, hx⟩ : ∃ x, y + (k : Int) = x := ⟨_, rfl⟩
        rw [hx] at hrx
        simp only [hx] at HX
        have hli : (0 : Int) < (L.length : Int) := by omega
        have hLb : (L.length : Int) ≤ 12 := by omega
        have HSS := Lib.hid st.hs
        have HLT := Lib.hid hlt
        have HPL := Lib.hid hL0
        have HHB := Lib.hid hb
        have HRX := Lib.hid hrx
        have HOL := Lib.hid (show O.length ≤ 12 by have := st.lo; omega)
        have HEQ := Lib.hid st.eq
        have hol := st.lo
        by_cases hx1 : x < 1
        · have HF := Lib.hid (show SteepZ xs z = none by rw [st.eq, HX.out, if_pos (.inl hx1)])
          clear st hll hlt hL0 hgd hy hrx hkz hol
          go_wp2
          go_ret2
          exact ⟨_, _, rfl, .inl ⟨HF.out, rfl, rfl⟩, HHB.out⟩
        · by_cases hk0 : 0 < k
          · obtain ⟨go, capo, curo, rfl, hgoB, hgol, _⟩ := own_open st.ho (by omega)
            have hko : k - 1 < O.length := by omega
            have c2 := st.ho.cellI (k - 1) hko
            have HG2 := Lib.hid (getD_atZ hko)
            obtain ⟨q, hq⟩ : ∃ q, O[k - 1] = q := ⟨_, rfl⟩
            rw [hq] at c2 HG2
            have hk0i : (0 : Int) < (k : Int) := by omega
            have hwk : IntKind.i64.wrap ((k : Int) - 1) = ((k - 1 : Nat) : Int) := by rw [IntWalk.i64_in _ (by omega)]; omega
            have hkl2 : ((k - 1 : Nat) : Int) < (O.length : Int) := by omega
            by_cases hxq : x ≤ q
            · have HF := Lib.hid (show SteepZ xs z = none by rw [st.eq, HX.out, if_pos (.inr ⟨hk0, by rw [HG2.out]; exact hxq⟩)])
              clear st hll hlt hL0 hgd hy hrx hkz hol hq hko
              go_wp2
              go_ret2
              exact ⟨_, _, rfl, .inl ⟨HF.out, rfl, rfl⟩, HHB.out⟩
            · have HX2 := Lib.hid (HX.out.trans (if_neg (by rintro (h | ⟨_, h⟩); exact hx1 h; rw [HG2.out] at h; exact hxq h)))
              clear st hll hlt hL0 hgd hy hrx hkz hol hq hko HX
              go_wp2_with (first
                | (at_builtin; refine wpList_app1 rfl _ _ 60 rfl 3 Tryd.underlying60 info3 w1.heap.size _ O _ rfl (HST.out.ho.alloc _) ⟨wr.heap.size, 0, none⟩ 1 rfl (cell_new1 _ _ _) (by have := HOL.out; omega) (by have := HSS.out; simp; omega) ?_; intro v' w3 ho3 hg3 hb3)
                | (go_at_call 81; refine (deleteI_any ((HST.out.hl.alloc _).kept hg3 HST.out.ne) 0 HPL.out _ _ (by omega) (by omega)).mono ?_; rintro e w4 ⟨v4, rfl, ho4, hob4, hg4⟩))
              go_roundw
              case rel => exact ⟨k + 1, HLT.out, by go_num, ⟨_, _, HST.out.next HLT.out 0 HPL.out x HX2.out HRX.out ho3 (by have := hg3.size; simp at this; omega) ho4 hob4 hg4⟩, below_round HHB.out HS1 HHB.out.size hb3 hg4 (fun j hj => by have := HST.out.hg.symm.trans hj; simp at this; omega)⟩
              case measure => have := HLT.out; simp [intOf]; omega
          · have hk0i : ¬ (0 : Int) < (k : Int) := by omega
            have HX2 := Lib.hid (HX.out.trans (if_neg (by rintro (h | ⟨h, _⟩); exact hx1 h; exact hk0 h)))
            clear st hll hlt hL0 hgd hy hrx hkz hol HX hk0
            go_wp2_with (first
              | (at_builtin; refine wpList_app1 rfl _ _ 60 rfl 3 Tryd.underlying60 info3 w1.heap.size _ O _ rfl (HST.out.ho.alloc _) ⟨wr.heap.size, 0, none⟩ 1 rfl (cell_new1 _ _ _) (by have := HOL.out; omega) (by have := HSS.out; simp; omega) ?_; intro v' w3 ho3 hg3 hb3)
              | (go_at_call 81; refine (deleteI_any ((HST.out.hl.alloc _).kept hg3 HST.out.ne) 0 HPL.out _ _ (by omega) (by omega)).mono ?_; rintro e w4 ⟨v4, rfl, ho4, hob4, hg4⟩))
            go_roundw
            case rel => exact ⟨k + 1, HLT.out, by go_num, ⟨_, _, HST.out.next HLT.out 0 HPL.out x HX2.out HRX.out ho3 (by have := hg3.size; simp at this; omega) ho4 hob4 hg4⟩, below_round HHB.out HS1 HHB.out.size hb3 hg4 (fun j hj => by have := HST.out.hg.symm.trans hj; simp at this; omega)⟩
            case measure => have := HLT.out; simp [intOf]; omega
    · obtain rfl : k = xs.length := by omega
      have HF := Lib.hid (show SteepZ xs z = some O by rw [st.eq, Nat.sub_self]; rfl)
      have HO := Lib.hid (st.ho.mono HS1)
      go_wp2
      go_ret2
      exact ⟨_, _, rfl, .inr ⟨O, HF.out, rfl, HO.out⟩, hb⟩
end Go.Proofs.YtlpnicfbgdfbnaaDoor
