/- rooks.Hits. -/
import Derived.Test.YtlpnicfbgdfbnaaDoorHy
import Derived.Test.YtlpnicfbgdfbnaaDoorRk
namespace Go.Proofs.YtlpnicfbgdfbnaaDoor
open Go.RowKit Go.Shelf
attribute [local go_sem] Oper.semAt_some

theorem toW_getElem (s : List Nat) (i : Nat) (h : i < (toW s).length) : (toW s)[i] = IntKind.i64.wrap ((s[i]'(by simpa [toW] using h) : Nat) : Int) := by simp [toW]
theorem toW_inc (s : List Nat) (i : Nat) (h : i < (toW s).length) : (toW s).set i (IntKind.i64.wrap ((toW s)[i] + 1)) = toW (inc s i) := by
  rw [toW_getElem, wrap_succ]
  unfold inc toW
  rw [List.map_set, getD_at (by simpa [toW] using h)]

theorem enter_go {P : Program} {f : FuncId} {fn : Func} {c : Code} (hf : P.funcs[f]? = some fn) (hname : (fn.name == "runtime.NumGoroutine") = false) (hb : fn.body = some c) (args : Array Value) (w : World) :
    (callFunc f args).run P w = .ok (.enter f args) w := by
  have h1 : fn.name ≠ "runtime.NumGoroutine" := by simpa using hname
  simp [callFunc, hf, h1, hb]

theorem yH_ok (w0 : World) (N : Nat) (bs : List Nat) (v : Value) (bo bb g : Nat) (h : IsBoard bs) (hv : Ints w0 v (toI bs)) (ht : Tab w0) (h0 : w0.heap.size ≤ N) (hbo : bo < N) (hbb : bb < N) (hg1 : w0.heap.size ≤ g) (hg : g < N) : (yH w0 N bs v bo bb g).Ok where
  enter := fun args W => enter_go Tryd.func50 (by kernel_rfl) rfl args W
  tab := fun s W hi => ht.below hi.hb
  low := fun s W hi => hi.low
  cells := fun s W k _ hp => hp.elim
  stable := fun s W W' hi hs => ⟨⟨⟨hs.os.trans hi.hb.os, hs.tape.trans hi.hb.tape, hs.output.trans hi.hb.output, Nat.le_trans hi.hb.size hs.size, fun k hk => (hs.block k (.inl (Nat.lt_of_lt_of_le hk h0)) (Nat.lt_of_lt_of_le hk hi.hb.size)).trans (hi.hb.block k hk)⟩,
    Nat.le_trans hi.low hs.size, hi.len, hs.boxed hi.xo (.inl hbo), hs.boxed hi.xb (.inl hbb), hs.own hi.own (fun k hk => .inl (by cases hk; exact hg))⟩, fun k hk => hk⟩
  call := fun s l v' W hi hl hc hp => by
    have hi : HInv w0 N bs v bo bb g s W := hi
    have hl : l.length = bs.length := hl
    have hle : hitN bs l ≤ bs.length := by rw [← hl]; exact hitN_le _ _
    have hlt : hitN bs l < (toW s).length := by rw [toW_length, hi.len]; omega
    have C := hits1_any W bs l v v' bo bb g (toW s)[hitN bs l] h.lt hl h.le hc (hv.below hi.hb) hp hi.xo hi.xb (hi.own.cellI _ hlt) (hi.own.frozenN _)
    refine C.mono ?_
    rintro e W' ⟨rfl, rfl⟩
    have hne : bo ≠ g := fun e => hi.xo.not_row (by decide) hi.own (by rw [e]; rfl)
    have hne2 : bb ≠ g := fun e => hi.xb.not_row (by decide) hi.own (by rw [e]; rfl)
    refine ⟨rfl, ⟨hi.hb.drew.setCell (by exact hg1) _, ?_, by show (inc s (hitN bs l)).length = _; rw [inc_length]; exact hi.len, boxed_at (w := W.drew) hi.xo hne _ _, boxed_at (w := W.drew) hi.xb hne2 _ _, ?_⟩, (Sm.drew _ W).trans (Sm.setCell _ _ _ _ (fun k hk e => ?_)), fun k hk => hk.elim⟩
    · have := hi.low; simpa using this
    · show OwnI 3 _ _ _ (toW (inc s (hitN bs l)))
      rw [← toW_inc s _ hlt]
      exact OwnI.storedI (w := W.drew) hi.own.drew _ _
    · have : N ≤ k := hk
      omega

set_option maxRecDepth 20000 in
set_option maxHeartbeats 2000000 in
theorem Hits_no (v : Value) (xs : List Int) (w : World) (hv : Ints w v xs) (h : boardB xs = false) :
    Calls Tryd.prog 23 #[v] w fun e w' => e = .returned (.tuple #[.slice none 0 0, .int .i64 2]) ∧ Below w.heap.size w w' := by
  obtain ⟨W0, hW0⟩ : ∃ W0, w.alloc (.cells #[v] 22) = W0 := ⟨_, rfl⟩
  have hb0 : Below w.heap.size w W0 := by rw [← hW0]; exact (Below.refl _ _).alloc (Nat.le_refl _) _
  have hx0 : Boxed W0 w.heap.size 22 v := by rw [← hW0]; exact Boxed.new _ _ _
  have hx0c := hx0.cell
  have C := valid_any v _ W0 (hv.below hb0)
  rw [h] at C
  obtain ⟨a, c, rfl, hlen, hcl, hc⟩ := hv
  clear hc h
  go_enter Tryd.func23, Tryd.ntmps23
  go_wp2_with (go_at_call 46; refine C.mono ?_; rintro e w1 ⟨rfl, hb⟩)
  go_ret2
  exact ⟨rfl, hb0.trans (hb.mono hb0.size)⟩

theorem toW_hits (bs : List Nat) (h : bs.length ≤ 6) : toW (hitsL bs) = toI (hitsL bs) := toW_small _ fun x hx => by
  obtain ⟨i, hi, rfl⟩ := List.mem_iff_getElem.1 hx
  have := hitsL_le bs h i
  rw [getD_at hi] at this
  omega
theorem runP_hits (w0 : World) (N : Nat) (bs : List Nat) (v : Value) (bo bb g : Nat) : ∀ (ls : List (List Nat)) (s : List Nat), runP (yH w0 N bs v bo bb g).step s ls = (hitsFrom bs s ls, true) := by
  intro ls s
  rw [runP_true _ (fun _ _ => rfl)]
  rfl

set_option maxRecDepth 20000 in
set_option maxHeartbeats 2000000 in
theorem Hits_yes (v : Value) (bs : List Nat) (w : World) (hv : Ints w v (toI bs)) (h : IsBoard bs) (ht : Tab w) :
    Calls Tryd.prog 23 #[v] w fun e w' => ∃ v', e = .returned (.tuple #[v', .int .i64 0]) ∧ OwnI 3 w.heap.size w' v' (toI (hitsL bs)) ∧ Below w.heap.size w w' := by
  obtain ⟨W0, hW0⟩ : ∃ W0, w.alloc (.cells #[v] 22) = W0 := ⟨_, rfl⟩
  have hb0 : Below w.heap.size w W0 := by rw [← hW0]; exact (Below.refl _ _).alloc (Nat.le_refl _) _
  have hx0 : Boxed W0 w.heap.size 22 v := by rw [← hW0]; exact Boxed.new _ _ _
  have hs0 : W0.heap.size = w.heap.size + 1 := by rw [← hW0]; simp
  have C := valid_any v _ W0 (hv.below hb0)
  rw [boardB_board h] at C
  have h6 := h.le
  have hw1 : IntKind.i64.wrap ((bs.length : Int) + 1) = (bs.length : Int) + 1 := IntWalk.i64_in _ (by omega)
  have hmk := make_ints1 bs.length (by omega)
  have hx0c := hx0.cell
  have H := Lib.hid h
  have HT := Lib.hid ht
  have HV := Lib.hid hv
  obtain ⟨a, c, rfl, hlen, hcl, hc⟩ := hv.openN
  clear hc h ht hv
  go_enter Tryd.func23, Tryd.ntmps23
  go_upto_region 3 with (go_at_call 46; refine C.mono ?_; rintro e w1 ⟨rfl, hb⟩)
  clear hW0 C
  have hx1 : Boxed w1 w.heap.size 22 (.slice a bs.length c) := boxed_below hx0 hb
  have hs1 := hb.size
  have hx1c := hx1.cell
  have hb1 : Below w.heap.size w w1 := hb0.trans (hb.mono hb0.size)
  obtain ⟨W2, hW2⟩ : ∃ W2, (w1.alloc (.cells ((toI (List.replicate (bs.length + 1) 0)).map (Value.int .i64)).toArray 3)).alloc (.cells #[.slice none 0 0] 22) = W2 := ⟨_, rfl⟩
  obtain ⟨W3, hW3⟩ : ∃ W3, W2.setCell ⟨w1.heap.size + 1, 0, none⟩ (.slice (some ⟨w1.heap.size, 0, none⟩) (bs.length + 1) (bs.length + 1)) = W3 := ⟨_, rfl⟩
  have hs2 : W2.heap.size = w1.heap.size + 2 := by rw [← hW2]; simp
  have xo2 : Boxed W2 (w1.heap.size + 1) 22 (.slice none 0 0) := by
    rw [← hW2]
    have := Boxed.new (w1.alloc (.cells ((toI (List.replicate (bs.length + 1) 0)).map (Value.int .i64)).toArray 3)) 22 (.slice none 0 0)
    rwa [World.size_alloc] at this
  have o2 : OwnI 3 w.heap.size W2 (.slice (some ⟨w1.heap.size, 0, none⟩) (bs.length + 1) (bs.length + 1)) (toI (List.replicate (bs.length + 1) 0)) := by
    rw [← hW2]
    exact (own_zeros w1 _ (by omega) (by unfold maxLen; omega)).alloc _
  have xb2 : Boxed W2 w.heap.size 22 (.slice a bs.length c) := by rw [← hW2]; exact (hx1.alloc _).alloc _
  have hb2 : Below w.heap.size w W2 := by rw [← hW2]; exact (hb1.alloc (by omega) _).alloc (by simp; omega) _
  have hs3 : W3.heap.size = W2.heap.size := by rw [← hW3]; simp
  have I3 : HInv w W3.heap.size bs (.slice a bs.length c) (w1.heap.size + 1) w.heap.size w1.heap.size (List.replicate (bs.length + 1) 0) W3 := by
    rw [← hW3]
    refine ⟨hb2.setCell (by show w.heap.size ≤ w1.heap.size + 1; omega) _, Nat.le_refl _, by simp, Boxed.set _ xo2, boxed_other xb2 (by omega) _, ?_⟩
    rw [toW_small _ (fun x hx => by rw [List.eq_of_mem_replicate hx]; decide)]
    exact own_setBox o2 xo2 (by decide) _
  have K3 := Lib.hid (perm_any (yH w W3.heap.size bs (.slice a bs.length c) (w1.heap.size + 1) w.heap.size w1.heap.size) (yH_ok _ _ _ _ _ _ _ H.out HV.out HT.out (by omega) (by omega) (by omega) (by omega) (by omega)) h6 _ W3 I3)
  have cx3 := I3.xb.cell
  have co2 := xo2.cell
  have fo2 := xo2.frozen
  have HI := Lib.hid I3
  clear I3 hx1 hx0 hb hb0 hb1 xo2 o2 xb2 hb2
  go_upto_region 4 with (fail)
  try rw [hW2]
  try rw [hW3]
  clear hW2 hW3 co2 fo2
  go_wp2_with (
    go_at_call 49
    refine K3.out.mono ?_
    rintro e w4 ⟨rfl, hi4, hs4, -⟩
    rw [runP_hits] at hi4
    have hi5 : HInv w W3.heap.size bs (.slice a bs.length c) (w1.heap.size + 1) w.heap.size w1.heap.size (hitsL bs) w4 := hi4
    have co4 := hi5.xo.cell
    have HI4 := Lib.hid hi5
    clear hi4 hi5 hs4)
  go_ret2
  have := HI4.out.own
  rw [toW_hits bs h6] at this
  exact ⟨_, rfl, this, HI4.out.hb⟩
end Go.Proofs.YtlpnicfbgdfbnaaDoor
