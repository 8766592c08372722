/- cycles: how many cycles a permutation has. -/
import Derived.Test.YtdackakjcnnofaaA8
import Derived.Test.YtdackakjcnnofaaA9
import Derived.Deep.LoopGhost
namespace Go.Proofs.Ytdackakjcnnofaa
open Go.RowKit
attribute [local go_sem] Oper.semAt_some

/-- The program's inner loop, as far as it may go. -/
def inC (x : List Nat) : Nat → Nat × Nat → Nat × Nat
  | 0, s => s
  | f + 1, s => if s.1.testBit s.2 then s else inC x f (s.1 ||| 2 ^ s.2, x.getD s.2 0)
def outC (x : List Nat) : Nat → Nat × Nat
  | 0 => (0, 0)
  | i + 1 => ((inC x 6 ((outC x i).1, i)).1, if (outC x i).1.testBit i then (outC x i).2 else (outC x i).2 + 1)
def cycOk (d : Nat) (x : List Nat) : Bool := cyOk d x && Nat.beq (outC x d).2 (cycN d x) && (List.range d).all fun i => (inC x 6 ((outC x i).1, i)).1.testBit (inC x 6 ((outC x i).1, i)).2 && Nat.blt (outC x i).1 32 && Nat.ble (outC x i).2 i
def cycCk (d : Nat) : Bool := (listsP d d).all fun x => !nodB x || cycOk d x
theorem cyc_checked : (cycCk 0 && cycCk 1 && cycCk 2 && cycCk 3 && cycCk 4 && cycCk 5) = true := by kernel_rfl
structure CycOk (d : Nat) (x : List Nat) : Prop where
  ok : cyOk d x = true
  all : (outC x d).2 = cycN d x
  stop : ∀ i, i < d → (inC x 6 ((outC x i).1, i)).1.testBit (inC x 6 ((outC x i).1, i)).2 = true
  lt : ∀ i, i < d → (outC x i).1 < 32
  le : ∀ i, i < d → (outC x i).2 ≤ i
theorem cyc_ok {d : Nat} (hd : d ≤ 5) {x : List Nat} (h : Perm1 d x) : CycOk d x := by
  have hs : cycCk d = true := by
    have := cyc_checked
    simp only [Bool.and_eq_true] at this
    obtain ⟨⟨⟨⟨⟨h0, h1⟩, h2⟩, h3⟩, h4⟩, h5⟩ := this
    have hcase : d = 0 ∨ d = 1 ∨ d = 2 ∨ d = 3 ∨ d = 4 ∨ d = 5 := by omega
    rcases hcase with rfl | rfl | rfl | rfl | rfl | rfl
    · exact h0
    · exact h1
    · exact h2
    · exact h3
    · exact h4
    · exact h5
  have hm := @listsP_mem d x h.lt
  rw [h.len] at hm
  have h1 := List.all_eq_true.1 hs x hm
  rw [nodB_of h.nodup, Bool.not_true, Bool.false_or] at h1
  unfold cycOk at h1
  simp only [Bool.and_eq_true, List.all_eq_true, List.mem_range] at h1
  obtain ⟨⟨h2, h3⟩, h4⟩ := h1
  exact ⟨h2, Nat.eq_of_beq_eq_true h3, fun i hi => (h4 i hi).1.1, fun i hi => Nat.le_of_ble_eq_true (show Nat.ble (_ + 1) 32 = true from (h4 i hi).1.2), fun i hi => Nat.le_of_ble_eq_true (h4 i hi).2⟩
theorem inC_stop {x : List Nat} {f : Nat} {s : Nat × Nat} (h : s.1.testBit s.2 = true) : inC x f s = s := by
  cases f with
  | zero => rfl
  | succ f => rw [inC, if_pos h]
theorem inC_go {x : List Nat} {f : Nat} {s : Nat × Nat} (h : s.1.testBit s.2 = false) : inC x (f + 1) s = inC x f (s.1 ||| 2 ^ s.2, x.getD s.2 0) := by
  rw [inC, if_neg (by rw [h]; simp)]
/-- How often a cell of an element is read. -/
theorem cs5_el {d : Nat} {x : List Nat} (hx : Perm1 d x) {j : Nat} (hj : j < d) : (cs5 (elI d x))[j]? = some (.int .i64 (x.getD j 0 : Nat)) := by
  have hl : j < x.length := by rw [hx.len]; exact hj
  rw [cs5_pad j (by rw [toI_length]; exact hl), toI_getElem, List.getD_eq_getElem?_getD, List.getElem?_eq_getElem hl]
  rfl
theorem div_bit : ∀ j : Nat, j < 5 → ∀ m : Nat, m < 32 → bits BinOp.and IntKind.i64 ((m : Int) / (2 : Int) ^ j) 1 = if m.testBit j then 1 else 0 := bit_walk
set_option maxRecDepth 100000 in
set_option maxHeartbeats 1000000 in
theorem cycles_any {d bg : Nat} {x : List Nat} (w : World) (hd : d ≤ 5) (hx : Perm1 d x) (hg : bg < w.heap.size) (hc : w.cell? ⟨bg, 0, none⟩ = some (.int .i64 (d : Nat))) :
    Calls Try.prog 27 #[.pointer (some ⟨bg, 0, none⟩), .agg (cs5 (elI d x)).toArray] w fun e w' => e = .returned (.int .i64 (cycN d x : Nat)) ∧ Below w.heap.size w w' := by
  have HO := Lib.hid (cyc_ok hd hx)
  have HX := Lib.hid hx
  have HE := Lib.hid (fun j hj => cs5_el hx (j := j) hj)
  have hlen := elI_len (d := d) hd hx
  obtain ⟨X, hX⟩ : ∃ X, elI d x = X := ⟨_, rfl⟩
  rw [hX] at HE hlen ⊢
  clear hx hX
  go_enter Try.func27, Try.ntmps27
  have HX0 := Lib.hid (Held.new w 54 (cs5 X))
  have HB0 := Lib.hid (show Below w.heap.size w (w.alloc (.cells (cs5 X).toArray 54)) from (Below.refl _ _).alloc (Nat.le_refl _) _)
  go_wp2_with fail
  obtain ⟨bx, hbx⟩ : ∃ x, w.heap.size = x := ⟨_, rfl⟩
  rw [hbx] at HX0 ⊢
  have HBX := Lib.hid hbx
  clear hbx
  obtain ⟨W0, hW0⟩ : ∃ x, w.alloc (.cells (cs5 X).toArray 54) = x := ⟨_, rfl⟩
  rw [hW0] at HB0 HX0 ⊢
  clear hW0
  have hd5i : (d : Int) ≤ 5 := by omega
  go_loopw [5, 6, 13] (fun s nn ix wr => ∃ i : Nat, i ≤ d ∧ ix = .int .i64 i ∧ s = .int .i64 ((outC x i).1 : Nat) ∧ nn = .int .i64 ((outC x i).2 : Nat) ∧ Below W0.heap.size W0 wr) (fun _ _ ix _ => d - (intOf ix).toNat)
  case atStart => exact ⟨0, Nat.zero_le _, rfl, rfl, rfl, Below.refl _ _⟩
  case round =>
    obtain ⟨i, hi, rfl, rfl, rfl, hb⟩ := hrel
    have HB := Lib.hid hb
    by_cases hlt : i < d
    · have hii : (i : Int) < (d : Int) := by omega
      have hs32 := HO.out.lt i hlt
      have hnl := HO.out.le i hlt
      have HST := Lib.hid (HO.out.stop i hlt)
      have HNX := Lib.hid (show outC x (i + 1) = ((inC x 6 ((outC x i).1, i)).1, if (outC x i).1.testBit i then (outC x i).2 else (outC x i).2 + 1) from rfl)
      obtain ⟨⟨s, nn⟩, hsn⟩ : ∃ p, outC x i = p := ⟨_, rfl⟩
      rw [hsn] at hs32 hnl HST HNX ⊢
      simp only at hs32 hnl HST HNX ⊢
      have hbit := div_bit i (by omega) s hs32
      clear hsn hb
      cases hbt : s.testBit i with
      | true =>
        rw [hbt] at hbit
        rw [hbt] at HNX
        have HNN := Lib.hid (show (outC x (i + 1)).2 = nn by rw [HNX.out]; rfl)
        have HNS := Lib.hid (show (outC x (i + 1)).1 = (inC x 6 (s, i)).1 by rw [HNX.out])
        rw [if_pos rfl] at hbit
        clear hbt HNX
        go_wp2_with fail
        go_loopg [5, 8] 6 (fun k se jx wr => ∃ a j : Nat, se = .int .i64 a ∧ jx = .int .i64 j ∧ a < 32 ∧ j < d ∧ inC x k (a, j) = inC x 6 (s, i) ∧ Below W0.heap.size W0 wr)
        case atStart => exact ⟨s, i, rfl, rfl, hs32, hlt, rfl, HB.out⟩
        case round =>
          obtain ⟨a, j, rfl, rfl, ha, hj, hin, hb⟩ := hrel
          have HB2 := Lib.hid hb
          have hbj := div_bit j (by omega) a ha
          have HIN := Lib.hid hin
          clear hin
          cases hbt : a.testBit j with
          | true =>
            rw [hbt, if_pos rfl] at hbj
            have HIS := Lib.hid (show (outC x (i + 1)).1 = a by rw [HNS.out, ← HIN.out, inC_stop (by exact hbt)])
            clear hbt hb
            go_wp2
            go_roundw
            case rel => exact ⟨i + 1, hlt, by go_num, by rw [HIS.out], by rw [HNN.out], HB2.out⟩
            case measure => simp [intOf]; omega
          | false =>
            rw [hbt, if_neg (by simp)] at hbj
            have HGK := Lib.hid (show ∃ k', gk = k' + 1 ∧ inC x k' (a ||| 2 ^ j, x.getD j 0) = inC x 6 (s, i) from by
              cases gk with
              | zero =>
                exfalso
                have h1 := HIN.out
                have h2 := HST.out
                rw [← h1] at h2
                change a.testBit j = true at h2
                rw [hbt] at h2
                cases h2
              | succ k' => exact ⟨k', rfl, by have h1 := HIN.out; rw [inC_go (by exact hbt)] at h1; exact h1⟩)
            have q1 := pow_in64 j (by omega)
            have q3 := pow_in j (by omega)
            have q5 := or_walk j (by omega) a ha
            have q6 := or_lt32 j (by omega) a ha
            have hxj := perm_getD_lt HX.out hj
            have hcx := (HX0.out.below hb HX0.out.lt).at (HE.out j hj)
            have hji : (j : Int) < 5 := by omega
            have hj0 : (0 : Int) ≤ (j : Int) := by omega
            obtain ⟨xj, hxx⟩ : ∃ y, x.getD j 0 = y := ⟨_, rfl⟩
            rw [hxx] at HGK hxj hcx
            obtain ⟨a2, ha2⟩ : ∃ y, a ||| 2 ^ j = y := ⟨_, rfl⟩
            rw [ha2] at HGK q5 q6
            clear hbt hb hxx ha2
            go_wp2
            go_roundg (gk - 1)
            case measure => obtain ⟨k', e, _⟩ := HGK.out; omega
            case rel => obtain ⟨k', e, h2⟩ := HGK.out; exact ⟨a2, xj, rfl, rfl, q6, hxj, by rw [e, Nat.add_sub_cancel]; exact h2, HB2.out⟩
      | false =>
        rw [hbt] at hbit
        rw [hbt] at HNX
        have HNN := Lib.hid (show (outC x (i + 1)).2 = nn + 1 by rw [HNX.out]; rfl)
        have HNS := Lib.hid (show (outC x (i + 1)).1 = (inC x 6 (s, i)).1 by rw [HNX.out])
        rw [if_neg (by simp)] at hbit
        clear hbt HNX
        go_wp2_with fail
        go_loopg [5, 8] 6 (fun k se jx wr => ∃ a j : Nat, se = .int .i64 a ∧ jx = .int .i64 j ∧ a < 32 ∧ j < d ∧ inC x k (a, j) = inC x 6 (s, i) ∧ Below W0.heap.size W0 wr)
        case atStart => exact ⟨s, i, rfl, rfl, hs32, hlt, rfl, HB.out⟩
        case round =>
          obtain ⟨a, j, rfl, rfl, ha, hj, hin, hb⟩ := hrel
          have HB2 := Lib.hid hb
          have hbj := div_bit j (by omega) a ha
          have HIN := Lib.hid hin
          clear hin
          cases hbt : a.testBit j with
          | true =>
            rw [hbt, if_pos rfl] at hbj
            have HIS := Lib.hid (show (outC x (i + 1)).1 = a by rw [HNS.out, ← HIN.out, inC_stop (by exact hbt)])
            clear hbt hb
            go_wp2
            go_roundw
            case rel => exact ⟨i + 1, hlt, by go_num, by rw [HIS.out], by rw [HNN.out]; go_num, HB2.out⟩
            case measure => simp [intOf]; omega
          | false =>
            rw [hbt, if_neg (by simp)] at hbj
            have HGK := Lib.hid (show ∃ k', gk = k' + 1 ∧ inC x k' (a ||| 2 ^ j, x.getD j 0) = inC x 6 (s, i) from by
              cases gk with
              | zero =>
                exfalso
                have h1 := HIN.out
                have h2 := HST.out
                rw [← h1] at h2
                change a.testBit j = true at h2
                rw [hbt] at h2
                cases h2
              | succ k' => exact ⟨k', rfl, by have h1 := HIN.out; rw [inC_go (by exact hbt)] at h1; exact h1⟩)
            have q1 := pow_in64 j (by omega)
            have q3 := pow_in j (by omega)
            have q5 := or_walk j (by omega) a ha
            have q6 := or_lt32 j (by omega) a ha
            have hxj := perm_getD_lt HX.out hj
            have hcx := (HX0.out.below hb HX0.out.lt).at (HE.out j hj)
            have hji : (j : Int) < 5 := by omega
            have hj0 : (0 : Int) ≤ (j : Int) := by omega
            obtain ⟨xj, hxx⟩ : ∃ y, x.getD j 0 = y := ⟨_, rfl⟩
            rw [hxx] at HGK hxj hcx
            obtain ⟨a2, ha2⟩ : ∃ y, a ||| 2 ^ j = y := ⟨_, rfl⟩
            rw [ha2] at HGK q5 q6
            clear hbt hb hxx ha2
            go_wp2
            go_roundg (gk - 1)
            case measure => obtain ⟨k', e, _⟩ := HGK.out; omega
            case rel => obtain ⟨k', e, h2⟩ := HGK.out; exact ⟨a2, xj, rfl, rfl, q6, hxj, by rw [e, Nat.add_sub_cancel]; exact h2, HB2.out⟩
    · obtain rfl : i = d := by omega
      have hii : ¬ (i : Int) < (i : Int) := by omega
      have HA := Lib.hid HO.out.all
      rw [HA.out]
      go_wp2
      go_ret
      exact ⟨rfl, HB0.out.trans (HB.out.mono HB0.out.size)⟩
end Go.Proofs.Ytdackakjcnnofaa
