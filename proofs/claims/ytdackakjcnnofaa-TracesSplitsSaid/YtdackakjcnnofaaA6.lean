/- Ip Co of the seat's texts, in this order. -/
import Derived.Test.YtdackakjcnnofaaA3
import Derived.Test.YtdackakjcnnofaaA2
import Derived.Test.YtdackakjcnnofaaA4
import Derived.Deep.LoopGhost

/- isPrime. -/
namespace Go.Proofs.Ytdackakjcnnofaa
open Go.RowKit

theorem primeC_end {n k : Nat} (h : ∀ t, 2 ≤ t → t < k → n % t ≠ 0) (hk : n < k * k) : primeC n = decide (1 < n) := by
  have : (List.range n).all (fun t => decide (t < 2) || decide (n < t * t) || n % t != 0) = true := by
    rw [List.all_eq_true]
    intro t _
    rcases Nat.lt_or_ge t 2 with h2 | h2
    · simp [h2]
    · rcases Nat.lt_or_ge t k with h3 | h3
      · have := h t h2 h3
        simp [this]
      · have : n < t * t := Nat.lt_of_lt_of_le hk (Nat.mul_le_mul h3 h3)
        simp [this]
  unfold primeC
  rw [this, Bool.and_true]
theorem primeC_div {n k : Nat} (h2 : 2 ≤ k) (hk : k * k ≤ n) (h : n % k = 0) : primeC n = false := by
  have hlt : k < n := by
    have : k * 2 ≤ k * k := Nat.mul_le_mul_left k h2
    omega
  unfold primeC
  rw [Bool.and_eq_false_iff]
  refine Or.inr ?_
  rw [← Bool.not_eq_true, List.all_eq_true]
  intro hall
  have := hall k (List.mem_range.2 hlt)
  simp [h] at this
  omega
theorem no_step {n k : Nat} (h : ∀ t, 2 ≤ t → t < k → n % t ≠ 0) (hz : ¬ n % k = 0) : ∀ t, 2 ≤ t → t < k + 1 → n % t ≠ 0 := by
  intro t h2 h3
  rcases Nat.lt_or_ge t k with h4 | h4
  · exact h t h2 h4
  · rw [show t = k by omega]; exact hz
theorem ep (n : Nat) (h : primeC n = decide (1 < n)) : decide ((n : Int) > 1) = primeC n := by
  rw [h]
  have : ((n : Int) > 1) ↔ 1 < n := by omega
  simp [this]
theorem sq_small {n k : Nat} (hn : n < 1000) (hk : k * k ≤ n) : k < 32 := by
  rcases Nat.lt_or_ge k 32 with h | h
  · exact h
  · have := Nat.mul_le_mul h h
    omega
set_option maxRecDepth 100000 in
set_option maxHeartbeats 400000 in
theorem isPrime_any (n : Nat) (w : World) (hn : n < 1000) :
    Calls Try.prog 60 #[.int .i64 (n : Nat)] w fun e w' => e = .returned (.bool (primeC n)) ∧ Below w.heap.size w w' := by
  go_enter Try.func60, Try.ntmps60
  go_wp2
  go_loopw [3] (fun i wr => ∃ k : Nat, 2 ≤ k ∧ k ≤ 33 ∧ i = .int .i64 k ∧ (∀ t, 2 ≤ t → t < k → n % t ≠ 0) ∧ Below w.heap.size w wr) (fun i _ => 40 - (intOf i).toNat)
  case atStart => exact ⟨2, by omega, by omega, rfl, fun t h1 h2 => by omega, Below.refl _ _⟩
  case round =>
    obtain ⟨k, h2, h33, rfl, hno, hb⟩ := hrel
    have hkk : k * k ≤ 1089 := Nat.mul_le_mul h33 h33
    have hcast : (k : Int) * (k : Int) = ((k * k : Nat) : Int) := (Int.natCast_mul k k).symm
    have hw : IntKind.i64.wrap ((k : Int) * (k : Int)) = (k : Int) * (k : Int) := by rw [hcast]; simp [IntKind.wrap, IntKind.bits, IntKind.signed]; omega
    by_cases hle : k * k ≤ n
    · have hk32 := sq_small hn hle
      have hle' : (k : Int) * (k : Int) ≤ n := by omega
      clear hcast
      have hrem : Int.tmod (n : Int) (k : Int) = ((n % k : Nat) : Int) := by rw [Int.ofNat_tmod]
      by_cases hz : n % k = 0
      · have HP := Lib.hid (primeC_div h2 hle hz)
        go_wp2
        go_ret
        exact ⟨ret_bool HP.out.symm, hb⟩
      · have HN := Lib.hid hno
        go_wp2
        go_roundw
        case rel => exact ⟨k + 1, by omega, by omega, by go_num, no_step HN.out hz, hb⟩
        case measure => simp [intOf]; omega
    · have HP := Lib.hid (primeC_end hno (by omega))
      have hle' : ¬ ((k : Int) * (k : Int) ≤ n) := by omega
      clear hcast hle
      go_wp2
      go_ret
      exact ⟨ret_bool (ep n HP.out), hb⟩
end Go.Proofs.Ytdackakjcnnofaa

/- (group).choose. -/
namespace Go.Proofs.Ytdackakjcnnofaa
open Go.RowKit
attribute [local go_sem] Oper.semAt_some

/-- The program's test of a prime, as far as it has come. -/
def fitTo (E : List (List Nat)) (q k : Nat) : Bool := ((repsN E E.length).take k).all fun a => (q - 1) % ordN E a == 0
theorem fitTo_succ {E : List (List Nat)} {q k r : Nat} (h : (repsN E E.length)[k]? = some r) : fitTo E q (k + 1) = (fitTo E q k && (q - 1) % ordN E r == 0) := by
  obtain ⟨hk, e⟩ := List.getElem?_eq_some_iff.1 h
  unfold fitTo
  rw [List.take_succ_eq_append_getElem hk, List.all_append, e]; simp
theorem fitTo_bad {E : List (List Nat)} {q k r : Nat} (h : (repsN E E.length)[k]? = some r) (hz : ¬ (q - 1) % ordN E r = 0) : fitTo E q (repsN E E.length).length = false := by
  unfold fitTo
  rw [List.take_length, ← Bool.not_eq_true, List.all_eq_true]
  intro hall
  have := hall r (List.mem_of_getElem? h)
  simp at this
  exact hz this
theorem Grp.fits_eq {d q : Nat} {E : List (List Nat)} (h : Grp d E) (hq : q < 62) : (fitTo E q (repsN E E.length).length && primeC q) = fitsN E q := by
  unfold fitTo fitsN
  rw [List.take_length, h.fits_reps, prime_two q hq, Bool.and_comm]

set_option maxRecDepth 100000 in
set_option maxHeartbeats 2000000 in
theorem fits_any {d H : Nat} {E : List (List Nat)} {S : Nat → Prop} {vC vO vB : Value} {q0 : Int} (bg bx : Nat) (vE : Value) (bM q : Nat) (w : World) (h : Grp d E) (hd : d ≤ 5) (h24 : E.length ≤ 24) (hq1 : 1 < q) (hq : q < 62)
    (hs : SrI d E H bg S w vE bM vC vO vB (classesN E) (ofL E E.length) (backC E) q0) (hx : Held w bx 43 [.pointer (some ⟨bg, 0, none⟩)]) :
    Calls Try.prog 58 #[.int .i64 (q : Nat), .pointer (some ⟨bx, 0, none⟩)] w fun e w' => e = .returned (.bool (fitsN E q)) ∧ Below w.heap.size w w' := by
  have OR := Lib.hid (fun (a : Nat) (w' : World) (ht : GT d E w' bg vE bM) (ha : a < E.length) => gorder_any bg vE bM a w' h hd h24 ht ha)
  have HG := Lib.hid h
  have HS := Lib.hid hs
  have HX := Lib.hid hx
  have hc0 := hx.at (i := 0) rfl
  have hc3 := hs.box.at (i := 3) rfl
  have hml := reps_len (E := E) E.length
  obtain ⟨m, hmm⟩ : ∃ m, (repsN E E.length).length = m := ⟨_, rfl⟩
  have HMM := Lib.hid hmm
  have HCL := Lib.hid ((clsL_length (E := E) E.length).trans hmm)
  have hmpos : 0 < m := by
    have h0 : (0 : Nat) ∈ repsN E E.length := reps_mem.2 ⟨h.pos, first_iff.2 fun b hb => by omega⟩
    rw [← hmm]; exact List.length_pos_of_mem h0
  have HCE := Lib.hid (clsL_end (E := E))
  obtain ⟨gC, cC, u0, e0, hgC, hgCs, -⟩ := hs.c.at 0 (by rw [← clsL_end, HCL.out]; exact hmpos)
  rw [← clsL_end, HCL.out] at e0
  subst e0
  have HFE := Lib.hid (h.fits_eq hq)
  rw [hmm] at HFE hml
  have HIP := Lib.hid (fun w' => isPrime_any q w' (by omega))
  have hqi : (q : Int) < 62 := by omega
  have hq1i : (1 : Int) < (q : Int) := by omega
  have hwq : IntKind.i64.wrap ((q : Int) - 1) = (q : Int) - 1 := IntWalk.i64_in _ (by omega)
  clear h hs hx hmm
  go_enter Try.func58, Try.ntmps58
  go_wp2
  go_loopw [11] (fun ix wr => ∃ k : Nat, k ≤ m ∧ ix = .int .i64 k ∧ fitTo E q k = true ∧ Below w.heap.size w wr) (fun ix _ => m - (intOf ix).toNat)
  case atStart => exact ⟨0, Nat.zero_le _, rfl, rfl, Below.refl _ _⟩
  case round =>
    obtain ⟨k, hk, rfl, hf, hb⟩ := hrel
    have HB := Lib.hid hb
    have HF := Lib.hid hf
    have hle := hb.size
    have hm5 := HS.out.below hb
    have hx5 := HX.out.below hb HX.out.lt
    clear hf
    by_cases hkl : k < m
    · have hki : (k : Int) < (m : Int) := by omega
      obtain ⟨g1, c1', u, e1, _, _, hcu, hu⟩ := hm5.c.at k (by rw [← HCE.out, HCL.out]; exact hkl)
      obtain rfl : gC = g1 := by have := (Value.slice.inj e1).1; simpa using this
      have hrk : (repsN E E.length)[k]? = some ((repsN E E.length)[k]'(by rw [HMM.out]; exact hkl)) := List.getElem?_eq_getElem _
      have hcl : (classesN E)[k]'(by rw [← HCE.out, HCL.out]; exact hkl) = clsN E ((repsN E E.length)[k]'(by rw [HMM.out]; exact hkl)) := by simp [classesN]
      have hrm := reps_mem.1 (List.mem_of_getElem? hrk)
      obtain ⟨r, hr⟩ : ∃ r, (repsN E E.length)[k]'(by rw [HMM.out]; exact hkl) = r := ⟨_, rfl⟩
      rw [hr] at hcl hrm hrk
      rw [hcl] at hu
      have hhd := HG.out.cls_head (a := r) hrm.1 hrm.2
      obtain ⟨hl0, he0⟩ := List.getElem?_eq_some_iff.1 hhd
      obtain ⟨au, cu, rfl, -, -, hcells⟩ := hu
      obtain ⟨b, off, rfl, -, hbs, hcell⟩ := hcells (by intro e; have := congrArg List.length e; rw [toI_length] at this; simp at this; rw [this] at hl0; simp at hl0)
      have hcr := hcell 0 (by rw [toI_length]; exact hl0)
      rw [toI_getElem, he0, Nat.add_zero] at hcr
      rw [toI_length] at hcu
      have hln0 := hl0
      obtain ⟨ln, hln⟩ : ∃ ln, (clsN E r).length = ln := ⟨_, rfl⟩
      rw [hln] at hcu hln0
      have HST := Lib.hid (fitTo_succ (q := q) hrk)
      have HBD := Lib.hid (fun hz => fitTo_bad (q := q) hrk hz)
      rw [HMM.out] at HBD
      have hor := (HG.out.ord_spec (a := r) hrm.1).1
      have O1 := Lib.hid (fun (p : BelW wr) => OR.out r p.v (hm5.below p.h).gt hrm.1)
      obtain ⟨o, ho⟩ : ∃ o, ordN E r = o := ⟨_, rfl⟩
      have ho1 : 1 ≤ o := by rw [← ho]; exact Nat.succ_pos _
      rw [ho] at HST HBD hor O1
      have c0 : ∀ p : BelW wr, p.v.cell? ⟨bx, 0, none⟩ = some (.pointer (some ⟨bg, 0, none⟩)) := fun p => BelW.cell hx5.lt (hx5.at (i := 0) rfl) p
      have c1 : ∀ p : BelW wr, p.v.cell? ⟨b, off, none⟩ = some (.int .i64 (r : Nat)) := fun p => BelW.cell hbs hcr p
      have hrem : Int.tmod ((q : Int) - 1) (o : Int) = (((q - 1) % o : Nat) : Int) := by
        rw [show (q : Int) - 1 = ((q - 1 : Nat) : Int) by omega, Int.ofNat_tmod]
      have ho0 : ¬ (o : Int) = 0 := by omega
      have ho0' : ((o : Int) == 0) = false := by simp; omega
      have hln1 : (0 : Int) < (ln : Int) := by omega
      obtain ⟨z, hz⟩ : ∃ z, (q - 1) % o = z := ⟨_, rfl⟩
      rw [hz] at HST HBD hrem
      have HMX := Lib.hid mixed
      clear hb hrk hcl hrm hr hhd hl0 he0 hcells hcell hln ho hz e1 hm5 hx5
      go_upto_region 4 with (fail)
      refine wp_region_bel HMX.out (by kernel_rfl) ?_
      repeat (first
        | go_big_quiet_step ((go_at_call 59; (with_reducible refine Calls.bel_of (O1.out _))))
        | quiet_step ((go_at_call 59; (with_reducible refine Calls.bel_of (O1.out _)))))
      refine wpQuiet_nil ?_
      intro wq hw'
      have HBQ := Lib.hid (HB.out.trans ((BelW.of hw').mono hle))
      clear hw'
      by_cases hz0 : z = 0
      · subst hz0
        have HNX := Lib.hid (show fitTo E q (k + 1) = true by rw [HST.out, HF.out]; rfl)
        clear HBD
        go_wp2
        go_roundw
        case rel => exact ⟨k + 1, hkl, by go_num, HNX.out, HBQ.out⟩
        case measure => simp [intOf]; omega
      · have HE := Lib.hid (show fitsN E q = false by rw [← HFE.out, HBD.out hz0]; rfl)
        have hzi : (((z : Nat) : Int) != 0) = true := by simp; omega
        have hzi2 : ¬ ((z : Nat) : Int) = 0 := by omega
        clear HBD
        go_wp2
        go_ret
        exact ⟨ret_bool HE.out.symm, HBQ.out⟩
    · obtain rfl : k = m := by omega
      have hki : ¬ (k : Int) < (k : Int) := by omega
      have HE := Lib.hid (show primeC q = fitsN E q by rw [← HFE.out, HF.out]; rfl)
      clear hb hm5 hx5
      go_wp2_with (go_at_call 60; refine (HIP.out _).mono ?_; rintro e w2 ⟨rfl, hb2⟩; have HB2 := Lib.hid hb2; clear hb2)
      go_ret
      exact ⟨ret_bool HE.out, HB.out.trans (HB2.out.mono hle)⟩
/-- The prime is laid. -/
theorem SrI.primed {d H bg bM : Nat} {E : List (List Nat)} {S : Nat → Prop} {w : World} {vE vC vO vB : Value} {C : List (List Nat)} {O : List Int} {B : List Nat} {q : Int} (h : SrI d E H bg S w vE bM vC vO vB C O B q) (q' : Int) : SrI d E H bg S (w.setCell ⟨bg, 6, none⟩ (.int .i64 q')) vE bM vC vO vB C O B q' := by
  have st := Sm.put (w := w) bg 6 (.int .i64 q')
  have hi : ∀ k, H ≤ k → k ≠ bg := fun k hk => by have := h.lt.1; omega
  exact ⟨by exact h.box.put 6 _, h.els.sm st (fun k hk => (h.lt.2.2.2 k hk).2), h.map.sm st h.lt.2.2.1, h.c.kept st (fun k hk => hi k (h.sH k hk)) (fun k hk => hi k (h.c.own k hk).1), own_sm h.o st (fun k hk => hi k (World.ownsRow.lt h.o k hk).1), own_sm h.b st (fun k hk => hi k (World.ownsRow.lt h.b k hk).1),
    fun k hk => ⟨by rw [ty_block (st.block k (hi k (h.sH k hk)) (ty_lt (h.hS k hk).1))]; exact (h.hS k hk).1, (h.hS k hk).2⟩, h.bo, h.lt, h.sH⟩
/-- No number ahead of q fits. -/
def NoneQ (E : List (List Nat)) (d q : Nat) : Prop := max E.length d < q ∧ q ≤ primeN E d ∧ ∀ p, max E.length d < p → p < q → fitsN E p = false
theorem NoneQ.start {d : Nat} {E : List (List Nat)} (h : Grp d E) (hd : d ≤ 5) (hn : E.length ≤ 24) : NoneQ E d (max E.length d + 1) := by
  have := h.prime_spec hd hn
  exact ⟨by omega, by omega, fun p h1 h2 => by omega⟩
theorem NoneQ.next {d q : Nat} {E : List (List Nat)} (hp : Grp d E) (hd : d ≤ 5) (hn : E.length ≤ 24) (h : NoneQ E d q) (hf : fitsN E q = false) : NoneQ E d (q + 1) := by
  have hs := hp.prime_spec hd hn
  refine ⟨by have := h.1; omega, ?_, fun p h1 h2 => ?_⟩
  · rcases Nat.lt_or_ge q (primeN E d) with h1 | h1
    · exact h1
    · have e : q = primeN E d := by have := h.2.1; omega
      rw [e, hs.2.2.1] at hf
      cases hf
  · by_cases e : p = q
    · rw [e]; exact hf
    · exact h.2.2 p h1 (by omega)
theorem NoneQ.done {d q : Nat} {E : List (List Nat)} (hp : Grp d E) (hd : d ≤ 5) (hn : E.length ≤ 24) (h : NoneQ E d q) (hf : fitsN E q = true) : q = primeN E d := by
  have hs := hp.prime_spec hd hn
  rcases Nat.lt_or_ge q (primeN E d) with h1 | h1
  · rw [hs.2.2.2 q h.1 h1] at hf; cases hf
  · have := h.2.1; omega
def ChOut (d : Nat) (E : List (List Nat)) (H bg : Nat) (S : Nat → Prop) (vE : Value) (bM : Nat) (vC vO vB : Value) (w : World) (e : Ending) (w' : World) : Prop :=
  e = .returned (.tuple #[]) ∧ SrI d E H bg S w' vE bM vC vO vB (classesN E) (ofL E E.length) (backC E) (primeN E d : Nat) ∧ Sm (fun k => k ≠ bg) w w'

set_option maxRecDepth 100000 in
set_option maxHeartbeats 2000000 in
theorem choose_any {d H : Nat} {E : List (List Nat)} {S : Nat → Prop} {vC vO vB : Value} (bg : Nat) (vE : Value) (bM : Nat) (w : World) (h : Grp d E) (hd : d ≤ 5) (h24 : E.length ≤ 24)
    (hs : SrI d E H bg S w vE bM vC vO vB (classesN E) (ofL E E.length) (backC E) 0) :
    Calls Try.prog 38 #[.pointer (some ⟨bg, 0, none⟩)] w (ChOut d E H bg S vE bM vC vO vB w) := by
  have FI := Lib.hid (fun (q bx : Nat) (w' : World) (q0 : Int) (h1 : 1 < q) (h2 : q < 62) (hs' : SrI d E H bg S w' vE bM vC vO vB (classesN E) (ofL E E.length) (backC E) q0) hx => fits_any bg bx vE bM q w' h hd h24 h1 h2 hs' hx)
  have HS := Lib.hid hs
  have hbl := hs.box.lt
  have HST := Lib.hid (NoneQ.start h hd h24)
  have HNX := Lib.hid (fun q (hq : NoneQ E d q) hf => NoneQ.next h hd h24 hq hf)
  have HDN := Lib.hid (fun q (hq : NoneQ E d q) hf => NoneQ.done h hd h24 hq hf)
  have hp62 := (h.prime_spec hd h24).2.1
  have hpos := h.pos
  obtain ⟨w1, hw1⟩ : ∃ x, w.alloc (.cells #[.pointer (some ⟨bg, 0, none⟩)] 43) = x := ⟨_, rfl⟩
  have hb1 : Below w.heap.size w w1 := by rw [← hw1]; exact (Below.refl _ _).alloc (Nat.le_refl _) _
  have hs1 := hs.below hb1
  have hx1 : Held w1 w.heap.size 43 [.pointer (some ⟨bg, 0, none⟩)] := by rw [← hw1]; exact Held.new _ _ [_]
  have hcx := hx1.at (i := 0) rfl
  have hc0 := hs1.box.at (i := 0) rfl
  have hc1 := hs1.box.at (i := 1) rfl
  obtain ⟨gE, cE, rfl, -, -, -⟩ := hs.els
  obtain ⟨n, hn⟩ : ∃ n, E.length = n := ⟨_, rfl⟩
  have hen : (elsI d E).length = n := (elsI_length d E).trans hn
  rw [hen] at hc1 HS FI hs1 ⊢
  have HN := Lib.hid hn
  rw [hn] at hpos h24 HST
  obtain ⟨M, hMM⟩ : ∃ M, max n d = M := ⟨_, rfl⟩
  rw [hMM] at HST
  have hmx : max (n : Int) (d : Int) = (M : Int) := by omega
  have hM30 : M ≤ 24 ∧ 1 ≤ M := by omega
  have hmw : IntKind.i64.wrap ((M : Int) + 1) = (M : Int) + 1 := IntWalk.i64_in _ (by omega)
  have hfz := hs1.box.free 6
  have hc6 := hs1.box.at (i := 6) rfl
  have HPR := Lib.hid (show SrI d E H bg S (w1.drew.setCell ⟨bg, 6, none⟩ (.int .i64 ((M : Int) + 1))) (.slice (some ⟨gE, 0, none⟩) n cE) bM vC vO vB (classesN E) (ofL E E.length) (backC E) ((M : Int) + 1) from by
    exact (hs1.below (Below.refl _ _).drew).primed _)
  have HXP := Lib.hid (show Held (w1.drew.setCell ⟨bg, 6, none⟩ (.int .i64 ((M : Int) + 1))) w.heap.size 43 [.pointer (some ⟨bg, 0, none⟩)] from (hx1.drew).far (by omega) _ _)
  have HSB := Lib.hid (show Sm (fun k => k ≠ bg) w (w1.drew.setCell ⟨bg, 6, none⟩ (.int .i64 ((M : Int) + 1))) from (Sm.of_below (hb1.drew)).trans (Sm.put bg 6 _))
  clear hen hs h hn hMM hs1 hx1 hb1
  go_enter Try.func38, Try.ntmps38
  go_wp2_with fail
  go_still_tail 12, (by kernel_rfl)
  obtain ⟨W, hW⟩ : ∃ W, w1.drew.setCell ⟨bg, 6, none⟩ (.int .i64 ((M : Int) + 1)) = W := ⟨_, rfl⟩
  rw [hW] at HPR HXP HSB
  go_wp2
  clear hW hmw hmx hc0 hc1 hcx hfz hc6
  go_loopg [] (99 - M) (fun k wr => ∃ q : Nat, k + q = 100 ∧ NoneQ E d q ∧ SrI d E H bg S wr (.slice (some ⟨gE, 0, none⟩) n cE) bM vC vO vB (classesN E) (ofL E E.length) (backC E) (q : Int) ∧ Held wr w.heap.size 43 [.pointer (some ⟨bg, 0, none⟩)] ∧ Sm (fun k => k ≠ bg) w wr)
  case atStart =>
    refine ⟨M + 1, ?_, HST.out, ?_, HXP.out, HSB.out⟩
    · omega
    · exact HPR.out
  case round =>
    obtain ⟨q, hgk, hq, hs5, hx5, hb5⟩ := hrel
    have HQ := Lib.hid hq
    have HS5 := Lib.hid hs5
    have HX5 := Lib.hid hx5
    have HB5 := Lib.hid hb5
    have HGK := Lib.hid hgk
    have hq2 : 1 < q := by have := hq.1; rw [HN.out] at this; omega
    have hq62 : q < 62 := by have := hq.2.1; omega
    have F := Lib.hid (FI.out q w.heap.size wr (q : Int) hq2 hq62 hs5 hx5)
    have hcx := hx5.at (i := 0) rfl
    have hc6 := hs5.box.at (i := 6) rfl
    have hqi : (q : Int) < 62 := by omega
    clear hq hs5 hx5 hb5 hgk
    cases hf : fitsN E q with
    | true =>
      have HE := Lib.hid (HDN.out q HQ.out hf)
      rw [hf] at F
      clear hf
      go_wp2_with (go_at_call 58; refine F.out.mono ?_; rintro e w2 ⟨rfl, hb2⟩; have HB2 := Lib.hid hb2; clear hb2)
      go_end0
      have h0 := HS5.out.below HB2.out
      rw [HE.out] at h0
      exact ⟨rfl, h0, HB5.out.trans (Sm.of_below HB2.out)⟩
    | false =>
      have HE := Lib.hid (HNX.out q HQ.out hf)
      rw [hf] at F
      clear hf
      go_wp2_with (first
        | (go_at_call 58; refine F.out.mono ?_; rintro e w2 ⟨rfl, hb2⟩; have HB2 := Lib.hid hb2; have HS2 := Lib.hid (HS5.out.below hb2); have HX2 := Lib.hid (HX5.out.below hb2 HX5.out.lt); have hcx2 := HX2.out.at (i := 0) rfl; have hc62 := HS2.out.box.at (i := 6) rfl; clear hb2)
        | ((with_reducible refine is_store 3 ?_); refine wpl_store_one size_int (by rfl) _ _ (by rfl) bg 6 (by rfl) (by rfl) (by rfl) (by rfl) (by simp) HS2.out.box ?_; intro w3 e3; have HS3 := Lib.hid (show SrI d E H bg S w3 (.slice (some ⟨gE, 0, none⟩) n cE) bM vC vO vB (classesN E) (ofL E E.length) (backC E) ((q : Int) + 1) from by rw [e3]; exact HS2.out.primed _); have HX3 := Lib.hid (show Held w3 w.heap.size 43 [.pointer (some ⟨bg, 0, none⟩)] from by rw [e3]; exact HX2.out.far (by omega) _ _); have HB3 := Lib.hid (show Sm (fun k => k ≠ bg) w w3 from by rw [e3]; exact (HB5.out.trans (Sm.of_below HB2.out)).trans (Sm.put bg 6 _)); clear e3))
      go_roundg (gk - 1)
      case measure => have := HGK.out; omega
      case rel => exact ⟨q + 1, by have := HGK.out; omega, HE.out, HS3.out, HX3.out, HB3.out⟩
end Go.Proofs.Ytdackakjcnnofaa
