/- S4: ref.steep, ref.Steep: the walks. -/
import Derived.Test.YtlpnicfbgdfbnaaDoorS3
import Derived.Lib.LazyBuf
namespace Go.Proofs.YtlpnicfbgdfbnaaDoor
open Go.RowKit Go.Shelf
attribute [local go_sem] Oper.semAt_some

/-- `append(v[:n:n], y)` on the walk's road. -/
theorem wpList_app1cut {ops : Array Oper} {rest : List Oper} {o : Oper} {a : Act} {w : World} {Q : Exit → Act → World → Prop} (hg : o.guard = none) (s x : Operand)
    (hop : o.op = Op.call { callee := Callee.builtin Builtin.append, args := #[s, x], argTypes := #[22, 22] })
    (C : Nat) (v : Value) (xs : List Int) (y : Int) (hs : a.eval s = cutV v) (hown : OwnI 3 C w v xs)
    (ad : Addr) (c : Nat) (hx : a.eval x = .slice (some ad) 1 c) (hc : w.cell? ad = some (.int .i64 y)) (hlen : xs.length < 17592186044416)
    (hK : ∀ v' w', OwnI 3 w.heap.size w' v' (xs ++ [y]) → Below w.heap.size w w' → wpList Tryd.prog ops Q rest (a.put o.dst v') w') :
    wpList Tryd.prog ops Q (o :: rest) a w := by
  refine wpList_plain hg fun K hKK => ?_
  obtain ⟨v', w', hr, h2, h3⟩ := run_app1_cut (ty := o.type) (c := c) hown hc hlen
  unfold Oper.wp execOp
  simp only [hop, resolve, invoke, builtin, Sem.run_bind, Sem.run_pure, Result.andThen_ok, List.map_toArray, List.map_cons, List.map_nil, hs, hx, hr]
  exact hKK _ _ (hK v' w' h2 h3)

/-- What ref.steep returns. -/
def RefPost (r : List Int) (w w' : World) (v' : Value) : Prop := ((r = [] ∧ v' = .slice none 0 0) ∨ (r ≠ [] ∧ (∃ a n c, v' = .slice (some a) n c) ∧ Ints w' v' r)) ∧ Below w.heap.size w w'
def RefOut (r : List Int) (w : World) (e : Ending) (w' : World) : Prop := ∃ v', e = .returned v' ∧ RefPost r w w' v'

theorem Ints.some {w : World} {v : Value} {xs : List Int} (h : Ints w v xs) (hl : 0 < xs.length) : ∃ a n c, v = .slice (Option.some a) n c := by
  obtain ⟨a, c, rfl, _, _, hc⟩ := h
  obtain ⟨b, off, rfl, _⟩ := hc (by rintro rfl; simp at hl)
  exact ⟨_, _, _, rfl⟩

theorem tryR_none {f : List Int → List Int} {b : List Int} {x : Nat} (h : nextR b x = false) : tryR f b x = none := by simp [tryR, h]
theorem tryR_empty {f : List Int → List Int} {b : List Int} {x : Nat} (h : f (b ++ [(x : Int)]) = []) : tryR f b x = none := by simp [tryR, h]
theorem tryR_some {f : List Int → List Int} {b : List Int} {x : Nat} (hn : nextR b x = true) (h : f (b ++ [(x : Int)]) ≠ []) : tryR f b x = some (f (b ++ [(x : Int)])) := by simp [tryR, h, hn]
theorem steepR_zero (d b : List Int) : steepR d 0 b = if DifZ b = d then b else [] := rfl
theorem steepR_succ (d b : List Int) (m : Nat) : steepR d (m + 1) b = ((List.range 13).findSome? (tryR (steepR d m) b)).getD [] := rfl

theorem RefPost.cases {r : List Int} {w w' : World} {v' : Value} (h : RefPost r w w' v') : (r = [] ∧ v' = .slice none 0 0 ∧ Below w.heap.size w w') ∨ (r ≠ [] ∧ (∃ a n c, v' = .slice (Option.some a) n c) ∧ Ints w' v' r ∧ Below w.heap.size w w') := by
  rcases h with ⟨⟨h1, h2⟩ | ⟨h1, h2, h3⟩, hb⟩
  · exact .inl ⟨h1, h2, hb⟩
  · exact .inr ⟨h1, h2, h3, hb⟩

theorem neq_nil (w : World) (a : Option Addr) (n c : Nat) : (binOp .neq 22 (.slice a n c) (.slice none 0 0)).run Tryd.prog w = .ok (.bool (!a.isNone)) w := Go.run_neq_slice_nil w 22 3 a n c Tryd.underlying22

theorem nextR_zero {b : List Int} (h : ¬ 0 < b.length) (x : Int) : nextR b x = true := by simp [nextR, h]
theorem nextR_pos {b : List Int} (h : 0 < b.length) {q : Int} (hq : b.getD (b.length - 1) 0 = q) (x : Int) : nextR b x = !(decide (x < q) || (x == q && decide (0 < x))) := by simp only [nextR, hq, h, decide_true, Bool.true_and]

theorem below_round2 {B : Nat} {w wr w1 w2 : World} {o : Obj} (hb : Below B w wr) (hB : B ≤ wr.heap.size) (hb1 : Below (wr.alloc o).heap.size (wr.alloc o) w1) (hb2 : Below w1.heap.size w1 w2) : Below B w w2 :=
  ((hb.alloc hB o).trans (hb1.mono (by simp; omega))).trans (hb2.mono (by have := hb1.size; simp at this; omega))
theorem below_half {B : Nat} {w wr w1 : World} {o : Obj} (hb : Below B w wr) (hB : B ≤ wr.heap.size) (hb1 : Below (wr.alloc o).heap.size (wr.alloc o) w1) : Below B w w1 :=
  (hb.alloc hB o).trans (hb1.mono (by simp; omega))
theorem RefPost.empty {r : List Int} {w w' : World} {v' : Value} (h : RefPost r w w' v') (hr : r = []) : v' = .slice none 0 0 ∧ Below w.heap.size w w' := by
  rcases h.cases with ⟨_, h1, h2⟩ | ⟨h1, _⟩
  · exact ⟨h1, h2⟩
  · exact absurd hr h1
theorem RefPost.full {r : List Int} {w w' : World} {v' : Value} (h : RefPost r w w' v') (hr : r ≠ []) : (∃ a n c, v' = .slice (Option.some a) n c) ∧ Ints w' v' r ∧ Below w.heap.size w w' := by
  rcases h.cases with ⟨h1, _⟩ | ⟨_, h1, h2, h3⟩
  · exact absurd h1 hr
  · exact ⟨h1, h2, h3⟩

set_option maxRecDepth 20000 in
set_option maxHeartbeats 8000000 in
theorem refsteep_any (d : List Int) (hd6 : d.length ≤ 12) : ∀ (m : Nat) (b : List Int) (vd vb : Value) (w : World), Ints w vd d → OwnI 3 0 w vb b → b.length + m = d.length → 0 < d.length → (∀ x ∈ b, 0 ≤ x ∧ x ≤ 12) →
    Calls Tryd.prog 67 #[vd, vb] w fun e w' => RefOut (steepR d m b) w e w' := by
  intro m
  induction m with
  | zero =>
    intro b vd vb w hvd hvb hbm hd0 hr
    have hib := hvb.ints (by omega)
    have DF := Lib.hid (Differences_any vb b w hib (by omega) (fun x hx => by have := hr x hx; omega))
    have SM := Lib.hid (fun (w1 : World) (v1 : Value) (h1 : OwnI 3 w.heap.size w1 v1 (DifZ b)) (h2 : Below w.heap.size w w1) => rsame_any v1 vd (DifZ b) d w1 (h1.ints (by rw [DifZ_length]; omega)) (hvd.below h2))
    have HIB := Lib.hid hib
    have HSO := Lib.hid (hib.some (by omega))
    obtain ⟨ab, cb, rfl, hib1⟩ := hib
    obtain ⟨ad, cd, rfl, hvd1⟩ := hvd
    have hlen : (b.length : Int) = (d.length : Int) := by omega
    have HLN := Lib.hid hbm
    have HD0 := Lib.hid hd0
    by_cases hdf : DifZ b = d
    · have HR := Lib.hid (show steepR d 0 b = b by rw [steepR_zero, if_pos hdf])
      have hdd : decide (DifZ b = d) = true := by simp [hdf]
      have HDF := Lib.hid hdd
      clear hib1 hvb hvd1 hbm hd0 hr hdf hdd
      go_enter Tryd.func67, Tryd.ntmps67
      go_wp2_with (first | (go_at_call 45; refine DF.out.mono ?_; rintro e w1 ⟨v1, rfl, ho1, hb1⟩) | (go_at_call 82; refine (SM.out _ _ ho1 hb1).mono ?_; rintro e w2 ⟨rfl, rfl⟩; rw [HDF.out]))
      go_ret
      exact ⟨_, rfl, .inr ⟨by rw [HR.out]; intro e; have h1 := HLN.out; have h2 := HD0.out; have h3 := congrArg List.length e; simp only [List.length_nil] at h3; omega, HSO.out, by rw [HR.out]; exact HIB.out.below hb1⟩, hb1⟩
    · have HR := Lib.hid (show steepR d 0 b = [] by rw [steepR_zero, if_neg hdf])
      have hdd : decide (DifZ b = d) = false := by simp [hdf]
      have HDF := Lib.hid hdd
      clear hib1 hvb hvd1 hbm hd0 hr hdf hdd
      go_enter Tryd.func67, Tryd.ntmps67
      go_wp2_with (first | (go_at_call 45; refine DF.out.mono ?_; rintro e w1 ⟨v1, rfl, ho1, hb1⟩) | (go_at_call 82; refine (SM.out _ _ ho1 hb1).mono ?_; rintro e w2 ⟨rfl, rfl⟩; rw [HDF.out]))
      go_ret
      exact ⟨_, rfl, .inl ⟨HR.out, rfl⟩, hb1⟩
  | succ m ih =>
    intro b vd vb w hvd hvb hbm hd0 hr
    have HVB := Lib.hid hvb
    obtain ⟨av, cv, hvf, hva⟩ : ∃ av cv, vb = .slice av b.length cv ∧ ((av = none ∧ b.length = 0 ∧ cv = 0) ∨ ∃ g, av = some ⟨g, 0, none⟩ ∧ b.length ≤ cv) := by
      rcases hvb.2 with ⟨h1, h2⟩ | ⟨g, cap, cur, h1, h2, h3, h4, _⟩
      · exact ⟨none, 0, by rw [h1, h2], .inl ⟨rfl, h2, rfl⟩⟩
      · exact ⟨_, cap, h1, .inr ⟨g, rfl, h4⟩⟩
    have IH := Lib.hid (fun (k : Nat) (hk : k ≤ 12) (w1 : World) (v' : Value) (hb : Below w.heap.size w w1) (ho : OwnI 3 0 w1 v' (b ++ [(k : Int)])) => ih (b ++ [(k : Int)]) vd v' w1 (hvd.below hb) ho (by simp; omega) hd0 (fun x hx => by
      rcases List.mem_append.mp hx with h | h
      · exact hr x h
      · rw [List.mem_singleton.mp h]; omega))
    rcases hva with ⟨rfl, h, rfl⟩ | ⟨g, rfl, hgc⟩
    · obtain rfl : b = [] := List.eq_nil_of_length_eq_zero h
      obtain ⟨ad, cd, rfl, hvd1⟩ := hvd
      subst hvf
      have hlt : (0 : Int) < (d.length : Int) := by omega
      have hbd : ((0 : Int) == (d.length : Int)) = false := by simp; omega
      have q22 := neq_nil
      clear hvb hvd1 hbm hr ih hd0 h
      go_enter Tryd.func67, Tryd.ntmps67
      go_wp2
      go_loopw [6] (fun ix wr => ∃ k : Nat, k ≤ 13 ∧ ix = .int .i64 k ∧ Below w.heap.size w wr ∧ ∀ x, x < k → tryR (steepR d m) [] x = none) (fun ix _ => 13 - (intOf ix).toNat)
      case atStart => exact ⟨0, Nat.zero_le _, rfl, Below.refl _ _, fun x h => by omega⟩
      case round =>
        obtain ⟨k, hk, rfl, hb, hbefore⟩ := hrel
        have HBF := Lib.hid hbefore
        have HB := Lib.hid hb
        clear hbefore hb
        by_cases hk12 : k ≤ 12
        · have hki : (k : Int) ≤ 12 := by omega
          have NX := Lib.hid (nextR_zero (b := []) (by simp) (k : Int))
          by_cases he : steepR d m ([] ++ [(k : Int)]) = []
          · have HE := Lib.hid he
            clear he
            go_wp2_with (first
              | (at_builtin; refine wpList_app1cut rfl _ _ rfl 0 _ [] _ rfl ((HVB.out.below HB.out).alloc _) ⟨wr.heap.size, 0, none⟩ 1 rfl (cell_new1 _ _ _) (by simp) ?_; intro v' w1 ho1 hb1)
              | (go_at_call 67; refine (IH.out k hk12 w1 v' (below_half HB.out HB.out.size hb1) (ho1.mono (Nat.zero_le _))).mono ?_; rintro e w2 ⟨v2, rfl, hp⟩; obtain ⟨rfl, hb2⟩ := hp.empty HE.out; clear hp))
            go_roundw
            case rel => exact ⟨k + 1, by omega, by go_num, below_round2 HB.out HB.out.size hb1 hb2, fun x hx => by
              rcases Nat.lt_or_ge x k with h | h
              · exact HBF.out x h
              · obtain rfl : x = k := by omega
                exact tryR_empty HE.out⟩
            case measure => simp [intOf]; omega
          · have HE := Lib.hid he
            clear he
            go_wp2_with (first
              | (at_builtin; refine wpList_app1cut rfl _ _ rfl 0 _ [] _ rfl ((HVB.out.below HB.out).alloc _) ⟨wr.heap.size, 0, none⟩ 1 rfl (cell_new1 _ _ _) (by simp) ?_; intro v' w1 ho1 hb1)
              | (go_at_call 67; refine (IH.out k hk12 w1 v' (below_half HB.out HB.out.size hb1) (ho1.mono (Nat.zero_le _))).mono ?_; rintro e w2 ⟨v2, rfl, hp⟩; obtain ⟨⟨a2, n2, c2, rfl⟩, hi2, hb2⟩ := hp.full HE.out; clear hp))
            go_ret
            have HR : steepR d (m + 1) [] = steepR d m ([] ++ [(k : Int)]) := by rw [steepR_succ, findSome_first (show k < 13 by omega) (tryR_some NX.out HE.out) HBF.out]; rfl
            exact ⟨_, rfl, .inr ⟨by rw [HR]; exact HE.out, ⟨_, _, _, rfl⟩, by rw [HR]; exact hi2⟩, below_round2 HB.out HB.out.size hb1 hb2⟩
        · obtain rfl : k = 13 := by omega
          have HR := Lib.hid (show steepR d (m + 1) [] = [] by rw [steepR_succ, findSome_none HBF.out]; rfl)
          go_wp2
          go_ret
          exact ⟨_, rfl, .inl ⟨HR.out, rfl⟩, HB.out⟩
    obtain ⟨ad, cd, rfl, hvd1⟩ := hvd
    subst hvf
    have hlt : (b.length : Int) < (d.length : Int) := by omega
    have hbd : ((b.length : Int) == (d.length : Int)) = false := by simp; omega
    have hb12 : b.length ≤ 12 := by omega
    have q22 := neq_nil
    have HBM := Lib.hid hbm
    clear hvb hvd1 hbm hr ih hd0
    go_enter Tryd.func67, Tryd.ntmps67
    go_wp2
    go_loopw [6] (fun ix wr => ∃ k : Nat, k ≤ 13 ∧ ix = .int .i64 k ∧ Below w.heap.size w wr ∧ ∀ x, x < k → tryR (steepR d m) b x = none) (fun ix _ => 13 - (intOf ix).toNat)
    case atStart => exact ⟨0, Nat.zero_le _, rfl, Below.refl _ _, fun x h => by omega⟩
    case round =>
      obtain ⟨k, hk, rfl, hb, hbefore⟩ := hrel
      have HBF := Lib.hid hbefore
      have HB := Lib.hid hb
      clear hbefore hb
      by_cases hk12 : k ≤ 12
      · have hki : (k : Int) ≤ 12 := by omega
        by_cases h0 : 0 < b.length
        · have h0i : (0 : Int) < (b.length : Int) := by omega
          have hbl : b.length - 1 < b.length := by omega
          have c2 := (HVB.out.below HB.out).cellI (b.length - 1) hbl
          have HG2 := Lib.hid (getD_atZ hbl)
          obtain ⟨q, hq⟩ : ∃ q, b[b.length - 1] = q := ⟨_, rfl⟩
          rw [hq] at c2 HG2
          have hwk : IntKind.i64.wrap ((b.length : Int) - 1) = ((b.length - 1 : Nat) : Int) := by rw [IntWalk.i64_in _ (by omega)]; omega
          have hkl2 : ((b.length - 1 : Nat) : Int) < (b.length : Int) := by omega
          clear hq
          by_cases hkq : (k : Int) < q
          · have NX := Lib.hid (show nextR b (k : Int) = false by rw [nextR_pos h0 HG2.out]; simp [hkq])
            go_wp2
            go_roundw
            case rel => exact ⟨k + 1, by omega, by go_num, HB.out, fun x hx => by
              rcases Nat.lt_or_ge x k with h | h
              · exact HBF.out x h
              · obtain rfl : x = k := by omega
                exact tryR_none NX.out⟩
            case measure => simp [intOf]; omega
          · by_cases hke : (k : Int) = q
            · subst hke
              by_cases hk0 : (0 : Int) < (k : Int)
              · have NX := Lib.hid (show nextR b (k : Int) = false by rw [nextR_pos h0 HG2.out]; simp; omega)
                go_wp2
                go_roundw
                case rel => exact ⟨k + 1, by omega, by go_num, HB.out, fun x hx => by
                  rcases Nat.lt_or_ge x k with h | h
                  · exact HBF.out x h
                  · obtain rfl : x = k := by omega
                    exact tryR_none NX.out⟩
                case measure => simp [intOf]; omega
              · have NX := Lib.hid (show nextR b (k : Int) = true by rw [nextR_pos h0 HG2.out]; simp; omega)
                by_cases he : steepR d m (b ++ [(k : Int)]) = []
                · have HE := Lib.hid he
                  clear he
                  go_wp2_with (first
                    | (at_builtin; refine wpList_app1cut rfl _ _ rfl 0 _ b _ rfl ((HVB.out.below HB.out).alloc _) ⟨wr.heap.size, 0, none⟩ 1 rfl (cell_new1 _ _ _) (by omega) ?_; intro v' w1 ho1 hb1)
                    | (go_at_call 67; refine (IH.out k hk12 w1 v' (below_half HB.out HB.out.size hb1) (ho1.mono (Nat.zero_le _))).mono ?_; rintro e w2 ⟨v2, rfl, hp⟩; obtain ⟨rfl, hb2⟩ := hp.empty HE.out; clear hp))
                  go_roundw
                  case rel => exact ⟨k + 1, by omega, by go_num, below_round2 HB.out HB.out.size hb1 hb2, fun x hx => by
                    rcases Nat.lt_or_ge x k with h | h
                    · exact HBF.out x h
                    · obtain rfl : x = k := by omega
                      exact tryR_empty HE.out⟩
                  case measure => simp [intOf]; omega
                · have HE := Lib.hid he
                  clear he
                  go_wp2_with (first
                    | (at_builtin; refine wpList_app1cut rfl _ _ rfl 0 _ b _ rfl ((HVB.out.below HB.out).alloc _) ⟨wr.heap.size, 0, none⟩ 1 rfl (cell_new1 _ _ _) (by omega) ?_; intro v' w1 ho1 hb1)
                    | (go_at_call 67; refine (IH.out k hk12 w1 v' (below_half HB.out HB.out.size hb1) (ho1.mono (Nat.zero_le _))).mono ?_; rintro e w2 ⟨v2, rfl, hp⟩; obtain ⟨⟨a2, n2, c2, rfl⟩, hi2, hb2⟩ := hp.full HE.out; clear hp))
                  go_ret
                  have HR : steepR d (m + 1) b = steepR d m (b ++ [(k : Int)]) := by rw [steepR_succ, findSome_first (show k < 13 by omega) (tryR_some NX.out HE.out) HBF.out]; rfl
                  exact ⟨_, rfl, .inr ⟨by rw [HR]; exact HE.out, ⟨_, _, _, rfl⟩, by rw [HR]; exact hi2⟩, below_round2 HB.out HB.out.size hb1 hb2⟩
            · have NX := Lib.hid (show nextR b (k : Int) = true by rw [nextR_pos h0 HG2.out]; simp [hke]; omega)
              have hke2 : ((k : Int) == q) = false := by simpa using hke
              by_cases he : steepR d m (b ++ [(k : Int)]) = []
              · have HE := Lib.hid he
                clear he
                go_wp2_with (first
                  | (at_builtin; refine wpList_app1cut rfl _ _ rfl 0 _ b _ rfl ((HVB.out.below HB.out).alloc _) ⟨wr.heap.size, 0, none⟩ 1 rfl (cell_new1 _ _ _) (by omega) ?_; intro v' w1 ho1 hb1)
                  | (go_at_call 67; refine (IH.out k hk12 w1 v' (below_half HB.out HB.out.size hb1) (ho1.mono (Nat.zero_le _))).mono ?_; rintro e w2 ⟨v2, rfl, hp⟩; obtain ⟨rfl, hb2⟩ := hp.empty HE.out; clear hp))
                go_roundw
                case rel => exact ⟨k + 1, by omega, by go_num, below_round2 HB.out HB.out.size hb1 hb2, fun x hx => by
                  rcases Nat.lt_or_ge x k with h | h
                  · exact HBF.out x h
                  · obtain rfl : x = k := by omega
                    exact tryR_empty HE.out⟩
                case measure => simp [intOf]; omega
              · have HE := Lib.hid he
                clear he
                go_wp2_with (first
                  | (at_builtin; refine wpList_app1cut rfl _ _ rfl 0 _ b _ rfl ((HVB.out.below HB.out).alloc _) ⟨wr.heap.size, 0, none⟩ 1 rfl (cell_new1 _ _ _) (by omega) ?_; intro v' w1 ho1 hb1)
                  | (go_at_call 67; refine (IH.out k hk12 w1 v' (below_half HB.out HB.out.size hb1) (ho1.mono (Nat.zero_le _))).mono ?_; rintro e w2 ⟨v2, rfl, hp⟩; obtain ⟨⟨a2, n2, c2, rfl⟩, hi2, hb2⟩ := hp.full HE.out; clear hp))
                go_ret
                have HR : steepR d (m + 1) b = steepR d m (b ++ [(k : Int)]) := by rw [steepR_succ, findSome_first (show k < 13 by omega) (tryR_some NX.out HE.out) HBF.out]; rfl
                exact ⟨_, rfl, .inr ⟨by rw [HR]; exact HE.out, ⟨_, _, _, rfl⟩, by rw [HR]; exact hi2⟩, below_round2 HB.out HB.out.size hb1 hb2⟩
        · have h0i : ¬ (0 : Int) < (b.length : Int) := by omega
          have NX := Lib.hid (nextR_zero h0 (k : Int))
          clear h0
          by_cases he : steepR d m (b ++ [(k : Int)]) = []
          · have HE := Lib.hid he
            clear he
            go_wp2_with (first
              | (at_builtin; refine wpList_app1cut rfl _ _ rfl 0 _ b _ rfl ((HVB.out.below HB.out).alloc _) ⟨wr.heap.size, 0, none⟩ 1 rfl (cell_new1 _ _ _) (by omega) ?_; intro v' w1 ho1 hb1)
              | (go_at_call 67; refine (IH.out k hk12 w1 v' (below_half HB.out HB.out.size hb1) (ho1.mono (Nat.zero_le _))).mono ?_; rintro e w2 ⟨v2, rfl, hp⟩; obtain ⟨rfl, hb2⟩ := hp.empty HE.out; clear hp))
            go_roundw
            case rel => exact ⟨k + 1, by omega, by go_num, below_round2 HB.out HB.out.size hb1 hb2, fun x hx => by
              rcases Nat.lt_or_ge x k with h | h
              · exact HBF.out x h
              · obtain rfl : x = k := by omega
                exact tryR_empty HE.out⟩
            case measure => simp [intOf]; omega
          · have HE := Lib.hid he
            clear he
            go_wp2_with (first
              | (at_builtin; refine wpList_app1cut rfl _ _ rfl 0 _ b _ rfl ((HVB.out.below HB.out).alloc _) ⟨wr.heap.size, 0, none⟩ 1 rfl (cell_new1 _ _ _) (by omega) ?_; intro v' w1 ho1 hb1)
              | (go_at_call 67; refine (IH.out k hk12 w1 v' (below_half HB.out HB.out.size hb1) (ho1.mono (Nat.zero_le _))).mono ?_; rintro e w2 ⟨v2, rfl, hp⟩; obtain ⟨⟨a2, n2, c2, rfl⟩, hi2, hb2⟩ := hp.full HE.out; clear hp))
            go_ret
            have HR : steepR d (m + 1) b = steepR d m (b ++ [(k : Int)]) := by rw [steepR_succ, findSome_first (show k < 13 by omega) (tryR_some NX.out HE.out) HBF.out]; rfl
            exact ⟨_, rfl, .inr ⟨by rw [HR]; exact HE.out, ⟨_, _, _, rfl⟩, by rw [HR]; exact hi2⟩, below_round2 HB.out HB.out.size hb1 hb2⟩
      · obtain rfl : k = 13 := by omega
        have HR := Lib.hid (show steepR d (m + 1) b = [] by rw [steepR_succ, findSome_none HBF.out]; rfl)
        go_wp2
        go_ret
        exact ⟨_, rfl, .inl ⟨HR.out, rfl⟩, HB.out⟩


set_option maxRecDepth 20000 in
set_option maxHeartbeats 2000000 in
theorem RefSteep_any (v : Value) (hs : List Nat) (s : List Int) (w : World) (hv : Ints w v (toI hs)) (h : Stp hs) (hst : Steep hs s) :
    Calls Tryd.prog 43 #[v] w fun e w' => ∃ v', e = .returned v' ∧ Ints w' v' s ∧ Below w.heap.size w w' := by
  have h1 := h.pos
  have h6 := h.le
  have hr : ∀ x ∈ toI hs, -100 ≤ x ∧ x ≤ 100 := by
    intro x hx
    obtain ⟨n, hn, rfl⟩ := List.mem_map.mp hx
    have := h.top n hn
    exact ⟨by omega, by omega⟩
  have hl := toI_length hs
  have DF := Lib.hid (Differences_any v (toI hs) w hv (by omega) hr)
  have hdl := DifZ_length (toI hs)
  have hne : s ≠ [] := by rintro rfl; have := hst.len; simp at this; omega
  have RS : ∀ (w1 : World) (v1 : Value), OwnI 3 w.heap.size w1 v1 (DifZ (toI hs)) → Calls Tryd.prog 67 #[v1, .slice none 0 0] w1 fun e w' => RefOut s w1 e w' := by
    intro w1 v1 h
    have := refsteep_any (DifZ (toI hs)) (by omega) hs.length [] v1 (.slice none 0 0) w1 (h.ints (by omega)) (OwnI.nil _ _ _) (by simp; omega) (by omega) (by simp)
    rwa [hst.ref ‹Stp hs›] at this
  have HR := Lib.hid RS
  have HN := Lib.hid hne
  clear hdl hl hr hne h RS hst
  obtain ⟨a, c, rfl, hv1⟩ := hv
  clear hv1
  go_enter Tryd.func43, Tryd.ntmps43
  go_wp2_with (first | (go_at_call 45; refine DF.out.mono ?_; rintro e w1 ⟨v1, rfl, ho1, hb1⟩) | (go_at_call 67; refine (HR.out _ _ ho1).mono ?_; rintro e w2 ⟨v2, rfl, hp⟩; obtain ⟨_, hi2, hb2⟩ := hp.full HN.out; clear hp))
  go_ret
  exact ⟨_, rfl, hi2, hb1.trans (hb2.mono hb1.size)⟩
end Go.Proofs.YtlpnicfbgdfbnaaDoor
