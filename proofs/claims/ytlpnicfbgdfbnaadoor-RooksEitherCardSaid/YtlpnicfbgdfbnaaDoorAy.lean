/- avoid$1 as a yield; avoid, Avoid. -/
import Derived.Test.YtlpnicfbgdfbnaaDoorRh
import Derived.Test.YtlpnicfbgdfbnaaDoorLess
namespace Go.Proofs.YtlpnicfbgdfbnaaDoor
open Go.RowKit Go.Shelf
attribute [local go_sem] Oper.semAt_some run_store_closure

set_option maxRecDepth 20000 in
set_option maxHeartbeats 800000 in
theorem avoid1_hit (W : World) (bs l : List Nat) (v vp : Value) (bo bb : Nat) (vo : Value) (hbs : ∀ r ∈ bs, r < 64) (hl : l.length = bs.length) (h1 : 1 ≤ bs.length) (h6 : bs.length ≤ 6) (hc6 : ∀ c ∈ l, c < 6) (hv : Ints W v (toI bs)) (hp : Ints W vp (toI l))
    (xb : Boxed W bb 47 v) (xo : Boxed W bo 22 vo) (hh : hitN bs l = 0) :
    Calls Tryd.prog 74 #[vp, .pointer (some ⟨bb, 0, none⟩), .pointer (some ⟨bo, 0, none⟩)] W fun e W' =>
      e = .returned (.bool false) ∧ ∃ g cap W1, OwnI 3 W.heap.size W1 (.slice (some ⟨g, 0, none⟩) l.length cap) (toI l) ∧ Below W.heap.size W W1 ∧ W' = W1.setCell ⟨bo, 0, none⟩ (.slice (some ⟨g, 0, none⟩) l.length cap) := by
  have C := hit_any v vp bs l W hv hp hbs hc6 (by omega) h6
  rw [hh] at C
  have C := Lib.hid C
  have CC := Lib.hid (Clone_any vp _ W hp)
  have c1 := xb.cell
  have hl1 : l.length = (l.length - 1) + 1 := by omega
  have HL := Lib.hid hl1
  have XO := Lib.hid xo
  obtain ⟨a, c, rfl, hlen, hcl, hc⟩ := hv.openN
  obtain ⟨a', c', rfl, hlen', hcl', hc'⟩ := hp.openN
  clear hc hc' hv hp hl1 xo xb hh hbs hl h6 hc6 h1
  have q22 : ∀ (w : World) (a : Option Addr) (n c n' c' : Nat), (binOp .eql 22 (.slice a n c) (.slice none n' c')).run Tryd.prog w = .ok (.bool a.isNone) w := fun w a n c n' c' => Lib.run_eql_slice_nil w _ _ a n c n' c' Tryd.underlying22
  go_enter Tryd.func74, Tryd.ntmps74
  go_wp2_with (first
    | (go_at_call 51; refine C.out.mono ?_; rintro e w2 ⟨rfl, rfl⟩)
    | (
      go_at_call 40
      refine CC.out.mono ?_
      rintro e w3 ⟨v3, rfl, ho3, hb3⟩
      obtain ⟨g, cap, e3⟩ := ho3.row HL.out
      rw [← HL.out] at e3
      subst e3
      have xo3 := boxed_below XO.out hb3
      have co3 := xo3.cell
      have fo3 := xo3.frozen
      have cs3 := (Boxed.set (.slice (some ⟨g, 0, none⟩) l.length cap) xo3).cell
      have HO3 := Lib.hid ho3
      have HB3 := Lib.hid hb3
      clear ho3 hb3 xo3))
  go_ret
  exact ⟨rfl, g, cap, w3, HO3.out, HB3.out, rfl⟩

set_option maxRecDepth 20000 in
set_option maxHeartbeats 800000 in
theorem avoid1_miss0 (W : World) (bs l : List Nat) (v vp : Value) (bo bb : Nat) (hbs : ∀ r ∈ bs, r < 64) (hl : l.length = bs.length) (h6 : bs.length ≤ 6) (hc6 : ∀ c ∈ l, c < 6) (hv : Ints W v (toI bs)) (hp : Ints W vp (toI l))
    (xb : Boxed W bb 47 v) (xo : Boxed W bo 22 (.slice none 0 0)) (hh : hitN bs l ≠ 0) :
    Calls Tryd.prog 74 #[vp, .pointer (some ⟨bb, 0, none⟩), .pointer (some ⟨bo, 0, none⟩)] W fun e W' => e = .returned (.bool true) ∧ W = W' := by
  have C := hit_any v vp bs l W hv hp hbs hc6 (by omega) h6
  have hle := hitN_le bs l
  obtain ⟨z, hz⟩ : ∃ z, hitN bs l = z := ⟨_, rfl⟩
  rw [hz] at C hh hle
  have C := Lib.hid C
  have c1 := xb.cell
  have c2 := xo.cell
  have hzb : ((z : Int) == 0) = false := by simp; omega
  obtain ⟨a, c, rfl, hlen, hcl, hc⟩ := hv.openN
  obtain ⟨a', c', rfl, hlen', hcl', hc'⟩ := hp.openN
  clear hc hc' hv hp xo xb hz hbs hl h6 hle hc6
  have q22 : ∀ (w : World) (a : Option Addr) (n c n' c' : Nat), (binOp .eql 22 (.slice a n c) (.slice none n' c')).run Tryd.prog w = .ok (.bool a.isNone) w := fun w a n c n' c' => Lib.run_eql_slice_nil w _ _ a n c n' c' Tryd.underlying22
  go_enter Tryd.func74, Tryd.ntmps74
  go_wp2_with (go_at_call 51; refine C.out.mono ?_; rintro e w2 ⟨rfl, rfl⟩)
  go_ret
  exact ⟨rfl, rfl⟩

set_option maxRecDepth 20000 in
set_option maxHeartbeats 800000 in
theorem avoid1_miss1 (W : World) (bs l : List Nat) (v vp : Value) (bo bb g n cap : Nat) (hbs : ∀ r ∈ bs, r < 64) (hl : l.length = bs.length) (h6 : bs.length ≤ 6) (hc6 : ∀ c ∈ l, c < 6) (hv : Ints W v (toI bs)) (hp : Ints W vp (toI l))
    (xb : Boxed W bb 47 v) (xo : Boxed W bo 22 (.slice (some ⟨g, 0, none⟩) n cap)) (hh : hitN bs l ≠ 0) :
    Calls Tryd.prog 74 #[vp, .pointer (some ⟨bb, 0, none⟩), .pointer (some ⟨bo, 0, none⟩)] W fun e W' => e = .returned (.bool false) ∧ W = W' := by
  have C := hit_any v vp bs l W hv hp hbs hc6 (by omega) h6
  have hle := hitN_le bs l
  obtain ⟨z, hz⟩ : ∃ z, hitN bs l = z := ⟨_, rfl⟩
  rw [hz] at C hh hle
  have C := Lib.hid C
  have c1 := xb.cell
  have c2 := xo.cell
  have hzb : ((z : Int) == 0) = false := by simp; omega
  obtain ⟨a, c, rfl, hlen, hcl, hc⟩ := hv.openN
  obtain ⟨a', c', rfl, hlen', hcl', hc'⟩ := hp.openN
  clear hc hc' hv hp xo xb hz hbs hl h6 hle hc6
  have q22 : ∀ (w : World) (a : Option Addr) (n c n' c' : Nat), (binOp .eql 22 (.slice a n c) (.slice none n' c')).run Tryd.prog w = .ok (.bool a.isNone) w := fun w a n c n' c' => Lib.run_eql_slice_nil w _ _ a n c n' c' Tryd.underlying22
  go_enter Tryd.func74, Tryd.ntmps74
  go_wp2_with (go_at_call 51; refine C.out.mono ?_; rintro e w2 ⟨rfl, rfl⟩)
  go_ret
  exact ⟨rfl, rfl⟩

/-- What lies in 'out'. -/
def OutIs (N : Nat) (W : World) (vo : Value) : Option (List Nat) → Prop
  | none => vo = .slice none 0 0
  | some l => 1 ≤ l.length ∧ OwnI 3 N W vo (toI l)
structure AInv (w0 : World) (N : Nat) (bs : List Nat) (v : Value) (bb bo : Nat) (s : Option (List Nat)) (W : World) : Prop where
  hb : Below w0.heap.size w0 W
  low : N ≤ W.heap.size
  xb : Boxed W bb 47 v
  out : ∃ vo, Boxed W bo 22 vo ∧ OutIs N W vo s
def APro (bo : Nat) (W : World) (k : Nat) : Prop := ∃ vo, Boxed W bo 22 vo ∧ vo.ownBlock = some k
theorem Boxed.uniq {W : World} {b : Nat} {t : TypeId} {u u' : Value} (h : Boxed W b t u) (h' : Boxed W b t u') : u = u' := by
  have := h.symm.trans h'
  simp only [Option.some.injEq, Obj.cells.injEq, Array.mk.injEq, List.cons.injEq] at this
  exact this.1.1

def stepA (bs : List Nat) (s : Option (List Nat)) (l : List Nat) : Option (List Nat) × Bool :=
  if hitN bs l = 0 then (some l, false) else (s, s.isNone)
def yA (w0 : World) (N : Nat) (bs : List Nat) (v : Value) (bb bo : Nat) : Yld (Option (List Nat)) where
  N := N
  n := bs.length
  fy := 74
  caps := #[.pointer (some ⟨bb, 0, none⟩), .pointer (some ⟨bo, 0, none⟩)]
  step := stepA bs
  Inv := AInv w0 N bs v bb bo
  Prot := fun _ => APro bo

theorem OutIs.sm {N : Nat} {W W' : World} {vo : Value} {s : Option (List Nat)} {S : Nat → Prop} (h : OutIs N W vo s) (hs : Sm S W W') (hS : ∀ k, vo.ownBlock = some k → S k) : OutIs N W' vo s := by
  cases s with
  | none => exact h
  | some l => exact ⟨h.1, hs.own h.2 hS⟩

theorem yA_ok (w0 : World) (N : Nat) (bs : List Nat) (v : Value) (bb bo : Nat) (h : IsBoard bs) (hv : Ints w0 v (toI bs)) (ht : Tab w0) (h0 : w0.heap.size ≤ N) (hbo0 : w0.heap.size ≤ bo) (hbo : bo < N) (hbb : bb < N) : (yA w0 N bs v bb bo).Ok where
  enter := fun args W => enter_go Tryd.func74 (by kernel_rfl) rfl args W
  tab := fun s W hi => ht.below hi.hb
  low := fun s W hi => hi.low
  cells := fun s W k hi hp => by
    have hi : AInv w0 N bs v bb bo s W := hi
    obtain ⟨vo, hx, ho⟩ := hi.out
    obtain ⟨vo', hx', hk⟩ := hp
    obtain rfl := Boxed.uniq hx hx'
    cases s with
    | none =>
      have : vo = .slice none 0 0 := ho
      subst this
      simp [Value.ownBlock] at hk
    | some l => exact ho.2.isCells k hk
  stable := fun s W W' hi hs => by
    have hi : AInv w0 N bs v bb bo s W := hi
    obtain ⟨vo, hx, ho⟩ := hi.out
    have hx' := hs.boxed hx (.inl hbo)
    refine ⟨⟨⟨hs.os.trans hi.hb.os, hs.tape.trans hi.hb.tape, hs.output.trans hi.hb.output, Nat.le_trans hi.hb.size hs.size, fun k hk => (hs.block k (.inl (Nat.lt_of_lt_of_le hk h0)) (Nat.lt_of_lt_of_le hk hi.hb.size)).trans (hi.hb.block k hk)⟩,
      Nat.le_trans hi.low hs.size, hs.boxed hi.xb (.inl hbb), vo, hx', ho.sm hs fun k hk => .inr ⟨vo, hx, hk⟩⟩, fun k hk => ?_⟩
    obtain ⟨vo', hy, hk⟩ := hk
    obtain rfl := Boxed.uniq hx' hy
    exact ⟨vo, hx, hk⟩
  call := fun s l v' W hi hl hc hp => by
    have hi : AInv w0 N bs v bb bo s W := hi
    have hl : l.length = bs.length := hl
    have hne : bb ≠ bo := by
      obtain ⟨vo, hx, _⟩ := hi.out
      exact Boxed.ne hi.xb hx (by decide)
    have hlow : N ≤ W.heap.size := hi.low
    obtain ⟨vo, hx, ho⟩ := hi.out
    by_cases hh : hitN bs l = 0
    · refine (avoid1_hit W bs l v v' bo bb vo h.lt hl h.pos h.le hc (hv.below hi.hb) hp hi.xb hx hh).mono ?_
      rintro e W' ⟨rfl, g, cap, W1, h1, h2, rfl⟩
      have e1 : (yA w0 N bs v bb bo).step s l = (some l, false) := if_pos hh
      rw [e1]
      have hx1 := boxed_below hx h2
      refine ⟨rfl, ⟨(hi.hb.trans (h2.mono hi.hb.size)).setCell (by exact hbo0) _, ?_, boxed_other (boxed_below hi.xb h2) hne _, _, Boxed.set _ hx1, ?_, own_setBox (h1.mono hi.low) hx1 (by decide) _⟩, (Sm.of_below h2).trans (Sm.setCell _ _ _ _ fun k hk e => ?_), fun k hk => ?_⟩
      · have := h2.size; simp; omega
      · have := h.pos; omega
      · have : N ≤ k := hk
        omega
      · obtain ⟨vo', hy, hk⟩ := hk
        obtain rfl := Boxed.uniq (Boxed.set (.slice (some ⟨g, 0, none⟩) l.length cap) hx1) hy
        exact .inr (h1.lt k hk).1
    · have e1 : (yA w0 N bs v bb bo).step s l = (s, s.isNone) := if_neg hh
      rw [e1]
      cases s with
      | none =>
        have : vo = .slice none 0 0 := ho
        subst this
        refine (avoid1_miss0 W bs l v v' bo bb h.lt hl h.le hc (hv.below hi.hb) hp hi.xb hx hh).mono ?_
        rintro e W' ⟨rfl, rfl⟩
        exact ⟨rfl, hi, Sm.refl _ _, fun k hk => .inl hk⟩
      | some l0 =>
        obtain ⟨g, cap, e2⟩ := ho.2.row (k := l0.length - 1) (by have := ho.1; omega)
        subst e2
        refine (avoid1_miss1 W bs l v v' bo bb g _ cap h.lt hl h.le hc (hv.below hi.hb) hp hi.xb hx hh).mono ?_
        rintro e W' ⟨rfl, rfl⟩
        exact ⟨rfl, hi, Sm.refl _ _, fun k hk => .inl hk⟩

/-- The first permutation that hits nothing. -/
def firstA (bs : List Nat) : Option (List Nat) := (allP bs.length).find? fun l => decide (hitN bs l = 0)
theorem runP_stepA (bs : List Nat) : ∀ ls : List (List Nat), (runP (stepA bs) none ls).1 = ls.find? fun l => decide (hitN bs l = 0)
  | [] => rfl
  | l :: ls => by
    rw [runP, List.find?_cons]
    by_cases h : hitN bs l = 0
    · have e : stepA bs none l = (some l, false) := if_pos h
      rw [e]; simp [h]
    · have e : stepA bs none l = (none, true) := if_neg h
      rw [e]; simp [h]; exact runP_stepA bs ls
theorem firstA_len {bs l : List Nat} (h : firstA bs = some l) : l.length = bs.length := perms_len _ _ l (List.mem_of_find?_eq_some h)

def AvoidIs (bs : List Nat) (w : World) (v' : Value) (w' : World) : Prop := match firstA bs with
  | none => v' = .slice none 0 0
  | some l => OwnI 3 w.heap.size w' v' (toI l)

set_option maxRecDepth 20000 in
set_option maxHeartbeats 800000 in
theorem avoid_any (v : Value) (bs : List Nat) (w : World) (hv : Ints w v (toI bs)) (h : IsBoard bs) (ht : Tab w) :
    Calls Tryd.prog 58 #[v] w fun e w' => ∃ v', e = .returned v' ∧ AvoidIs bs w v' w' ∧ Below w.heap.size w w' := by
  obtain ⟨W0, hW0⟩ : ∃ W0, w.alloc (.cells #[v] 47) = W0 := ⟨_, rfl⟩
  have hs0 : W0.heap.size = w.heap.size + 1 := by rw [← hW0]; simp
  obtain ⟨W1, hW1⟩ : ∃ W1, W0.alloc (.cells #[.slice none 0 0] 22) = W1 := ⟨_, rfl⟩
  have hs1 : W1.heap.size = w.heap.size + 2 := by rw [← hW1]; simp [hs0]
  have xb0 : Boxed W0 w.heap.size 47 v := by rw [← hW0]; exact Boxed.new _ _ _
  have xb : Boxed W1 w.heap.size 47 v := by rw [← hW1]; exact xb0.alloc _
  have xo : Boxed W1 (w.heap.size + 1) 22 (.slice none 0 0) := by rw [← hW1]; have := Boxed.new W0 22 (.slice none 0 0); rwa [hs0] at this
  have hb1 : Below w.heap.size w W1 := by rw [← hW1, ← hW0]; exact ((Below.refl _ _).alloc (Nat.le_refl _) _).alloc (by simp) _
  have I : AInv w W1.heap.size bs v w.heap.size (w.heap.size + 1) none W1 := ⟨hb1, Nat.le_refl _, xb, _, xo, rfl⟩
  have K := Lib.hid (perm_any (yA w W1.heap.size bs v w.heap.size (w.heap.size + 1)) (yA_ok _ _ _ _ _ _ h hv ht (by omega) (by omega) (by omega) (by omega)) h.le none W1 I)
  have c1 := xb.cell
  have HP := Lib.hid h.pos
  obtain ⟨a, c, rfl, hlen, hcl, hc⟩ := hv.openN
  clear hc hv I xb0 h ht
  go_enter Tryd.func58, Tryd.ntmps58
  go_wp2_with (
    go_at_call 49
    refine K.out.mono ?_
    rintro e w4 ⟨rfl, hi4, hs4, -⟩
    have hi5 : AInv w W1.heap.size bs (.slice a bs.length c) w.heap.size (w.heap.size + 1) (runP (stepA bs) none (allP bs.length)).1 w4 := hi4
    rw [runP_stepA] at hi5
    obtain ⟨hb5, -, -, vo, hx5, ho5⟩ := hi5
    have co5 := hx5.cell
    have HO5 := Lib.hid ho5
    have HB5 := Lib.hid hb5
    clear hi4 hs4 hx5 ho5 hb5)
  have HO := HO5.out
  have hfin : AvoidIs bs w vo w4 := by
    unfold AvoidIs
    have e0 : firstA bs = (allP bs.length).find? fun l => decide (hitN bs l = 0) := rfl
    rw [← e0] at HO
    cases hf : firstA bs with
    | none => rw [hf] at HO; exact HO
    | some l => rw [hf] at HO; exact HO.2.mono (by omega)
  go_ret
  exact ⟨_, rfl, hfin, HB5.out⟩
end Go.Proofs.YtlpnicfbgdfbnaaDoor
