/- ref.rooks, ref.Rooks. -/
import Derived.Test.YtlpnicfbgdfbnaaDoorCutY
namespace Go.Proofs.YtlpnicfbgdfbnaaDoor
open Go.RowKit

def sh (k : Nat) (f : Nat → Nat) (m : Nat) : Nat := if k ≤ m then f (m - k) else 0
def psum (f : Nat → Nat) : Nat → Nat
  | 0 => 0
  | c + 1 => psum f c + f c
theorem psum_six (f : Nat → Nat) : psum f 6 = csum f := by simp only [psum, csum]; omega
theorem psum_le (f : Nat → Nat) {a : Nat} : ∀ {b : Nat}, a ≤ b → psum f a ≤ psum f b := by
  intro b hb
  induction hb with
  | refl => exact Nat.le_refl _
  | step _ ih => exact Nat.le_trans ih (Nat.le_add_right _ _)
theorem psum_zero (f : Nat → Nat) {n : Nat} : ∀ {b : Nat}, n ≤ b → (∀ c, n ≤ c → f c = 0) → psum f b = psum f n := by
  intro b hb h
  induction hb with
  | refl => rfl
  | step hm ih => rw [psum, ih, h _ hm]; rfl

theorem sh_cnt (k : Nat) (r : Nat) (rs : List Nat) (u m : Nat) :
    sh k (cnt (r :: rs) u) m = sh k (cnt rs u) m + csum fun c => if free r u c then sh (k + 1) (cnt rs (u ||| 2 ^ c)) m else 0 := by
  unfold sh
  by_cases h : k ≤ m
  · rw [if_pos h, if_pos h]
    by_cases h2 : k + 1 ≤ m
    · obtain ⟨d, hd⟩ : ∃ d, m - k = d + 1 := ⟨m - k - 1, by omega⟩
      rw [hd, cnt]
      simp only [if_pos h2]
      rw [show m - (k + 1) = d by omega]
    · have e : m - k = 0 := by omega
      rw [e, cnt_zero, cnt_zero]
      have : csum (fun c => if free r u c = true then (if k + 1 ≤ m then cnt rs (u ||| 2 ^ c) (m - (k + 1)) else 0) else 0) = csum fun _ => 0 := csum_congr fun c _ => by rw [if_neg h2]; simp
      rw [this]; rfl
  · rw [if_neg h, if_neg h]
    have : csum (fun c => if free r u c = true then (if k + 1 ≤ m then cnt rs (u ||| 2 ^ c) (m - (k + 1)) else 0) else 0) = csum fun _ => 0 := csum_congr fun c _ => by simp [show ¬ k + 1 ≤ m by omega]
    rw [this]; rfl
theorem sh_nil (k u m : Nat) : sh k (cnt [] u) m = if m = k then 1 else 0 := by
  unfold sh
  by_cases h : m = k
  · subst h; simp [cnt_zero]
  · rw [if_neg h]
    by_cases h2 : k ≤ m
    · rw [if_pos h2]
      obtain ⟨d, hd⟩ : ∃ d, m - k = d + 1 := ⟨m - k - 1, by omega⟩
      rw [hd]; rfl
    · rw [if_neg h2]

/-- What ref.rooks leaves in its counts. -/
def Added (k : Nat) (f : Nat → Nat) (cur cur' : List Nat) : Prop := cur'.length = cur.length ∧ ∀ m, m < cur.length → cur'.getD m 0 = cur.getD m 0 + sh k f m

theorem getD_set {l : List Nat} {i x m : Nat} (hi : i < l.length) : (l.set i x).getD m 0 = if m = i then x else l.getD m 0 := by
  simp only [List.getD, List.getElem?_set]
  by_cases h : i = m
  · subst h; simp [hi]
  · simp [h, Ne.symm h]

def RrPost (W0 : World) (cv : Value) (k : Nat) (f : Nat → Nat) (cur : List Nat) (e : Ending) (W' : World) : Prop :=
  e = .returned (.tuple #[]) ∧ ∃ cur', OwnI 3 W0.heap.size W' cv (toI cur') ∧ Below W0.heap.size W0 W' ∧ Added k f cur cur'

set_option maxRecDepth 20000 in
set_option maxHeartbeats 2000000 in
theorem rr_leaf (v : Value) (bs : List Nat) (W0 W : World) (hv : Ints W0 v (toI bs)) (used k : Nat) (g cap : Nat) (cur : List Nat) (hk : k < cur.length) (hb : Below W0.heap.size W0 W)
    (ho : OwnI 3 W0.heap.size W (.slice (some ⟨g, 0, none⟩) cur.length cap) (toI cur)) (hbnd : cur.getD k 0 ≤ 1099511627776) :
    Calls Tryd.prog 52 #[v, .int .i64 (bs.length : Nat), .int .i64 used, .int .i64 k, .slice (some ⟨g, 0, none⟩) cur.length cap] W (RrPost W0 (.slice (some ⟨g, 0, none⟩) cur.length cap) k (cnt [] used) cur) := by
  obtain ⟨a, c, rfl, hlen, hcl2, hc⟩ := hv.openN
  clear hv hc
  have cG := ho.cellN k hk
  have fG := ho.frozenN k
  obtain ⟨x, hx⟩ : ∃ x, cur[k] = x := ⟨_, rfl⟩
  rw [hx] at cG
  rw [getD_at hk, hx] at hbnd
  have HO := Lib.hid ho
  have HX := Lib.hid hx
  clear ho hx
  have w1 : IntKind.i64.wrap ((x : Int) + 1) = (x : Int) + 1 := IntWalk.i64_in _ (by omega)
  go_enter Tryd.func52, Tryd.ntmps52
  go_wp2
  go_end0
  refine ⟨rfl, cur.set k (x + 1), ?_, hb.setCell (by exact HO.out.blockEq.1) _, by simp, fun m hm => ?_⟩
  · have := HO.out.storedN k (x + 1)
    push_cast at this
    exact this
  · rw [getD_set hk, sh_nil]
    by_cases h : m = k
    · subst h; rw [if_pos rfl, if_pos rfl, getD_at hk, HX.out]
    · rw [if_neg h, if_neg h]; rfl

theorem bit_walk0 {j r : Nat} (hj : j < 6) (hr : r < 64) (h : r.testBit j = false) : bits BinOp.and IntKind.i64 ((r : Int) / (2 : Int) ^ j) 1 = 0 := by rw [bit_walk j hj r hr, h]; rfl
theorem bit_walk1 {j r : Nat} (hj : j < 6) (hr : r < 64) (h : r.testBit j = true) : bits BinOp.and IntKind.i64 ((r : Int) / (2 : Int) ^ j) 1 = 1 := by rw [bit_walk j hj r hr, h]; rfl
theorem free_of {r u c : Nat} {a b : Bool} (h1 : r.testBit c = a) (h2 : u.testBit c = b) : free r u c = (a && !b) := by unfold free; rw [h1, h2]

def rrF (r : Nat) (rs : List Nat) (used k m c : Nat) : Nat := if free r used c then sh (k + 1) (cnt rs (used ||| 2 ^ c)) m else 0

set_option maxRecDepth 20000 in
set_option maxHeartbeats 4000000 in
theorem rr_node (v : Value) (bs : List Nat) (h : IsBoard bs) (W0 W : World) (hv : Ints W0 v (toI bs)) (i used k : Nat) (r : Nat) (rs : List Nat) (hi : i < bs.length) (hr : bs[i] = r) (hu : used < 64) (g cap : Nat) (cur : List Nat) (hkk : k + rs.length + 1 < cur.length) (hcl : cur.length ≤ 1000)
    (hb : Below W0.heap.size W0 W) (ho : OwnI 3 W0.heap.size W (.slice (some ⟨g, 0, none⟩) cur.length cap) (toI cur)) (hbnd : ∀ m, m < cur.length → cur.getD m 0 + sh k (cnt (r :: rs) used) m ≤ 1099511627776)
    (ih : ∀ (used k : Nat) (cur' : List Nat) (W : World), used < 64 → cur'.length = cur.length → k + rs.length < cur'.length → Below W0.heap.size W0 W → OwnI 3 W0.heap.size W (.slice (some ⟨g, 0, none⟩) cur.length cap) (toI cur') →
      (∀ m, m < cur'.length → cur'.getD m 0 + sh k (cnt rs used) m ≤ 1099511627776) →
      Calls Tryd.prog 52 #[v, .int .i64 ((i + 1 : Nat) : Int), .int .i64 used, .int .i64 k, .slice (some ⟨g, 0, none⟩) cur.length cap] W (RrPost W0 (.slice (some ⟨g, 0, none⟩) cur.length cap) k (cnt rs used) cur')) :
    Calls Tryd.prog 52 #[v, .int .i64 (i : Nat), .int .i64 used, .int .i64 k, .slice (some ⟨g, 0, none⟩) cur.length cap] W (RrPost W0 (.slice (some ⟨g, 0, none⟩) cur.length cap) k (cnt (r :: rs) used) cur) := by
  have hr64 : r < 64 := by rw [← hr]; exact h.lt _ (List.getElem_mem hi)
  have h6 := h.le
  have hrow := h.row _ (List.getElem_mem hi)
  rw [hr] at hrow
  obtain ⟨a, c, rfl, hlen, hcl2, hc⟩ := hv.openN
  obtain ⟨b, off, rfl, hbl, hcell⟩ := hc (ne_nil_of_lt hi)
  have hci := hcell i hi
  rw [hr] at hci
  have IH := Lib.hid ih
  have HB := Lib.hid hbnd
  have SH := Lib.hid (fun m => sh_cnt k r rs used m)
  have w1 : IntKind.i64.wrap ((i : Int) + 1) = ((i + 1 : Nat) : Int) := by rw [IntWalk.i64_in _ (by omega)]; omega
  have HZ := Lib.hid (show ∀ m c, bs.length ≤ c → rrF r rs used k m c = 0 from fun m c hc => by
    unfold rrF free
    rw [Nat.testBit_lt_two_pow (Nat.lt_of_lt_of_le hrow (Nat.pow_le_pow_right (by decide) hc))]; simp)
  clear hv hc hcell ih hbnd hr h hrow
  go_enter Tryd.func52, Tryd.ntmps52
  go_wp2_with (go_at_call 52; refine (IH.out used k cur W hu rfl (by omega) hb ho (fun m hm => Nat.le_trans (by rw [SH.out]; omega) (HB.out m hm))).mono ?_; rintro e w2 ⟨rfl, cur1, ho1, hb1, hl1, hadd1⟩)
  go_loopw [30] (fun p wr => ∃ (c : Nat) (cu : List Nat), p = .int .i64 c ∧ c ≤ bs.length ∧ OwnI 3 W0.heap.size wr (.slice (some ⟨g, 0, none⟩) cur.length cap) (toI cu) ∧ Below W0.heap.size W0 wr ∧ cu.length = cur.length ∧
      ∀ m, m < cur.length → cu.getD m 0 = cur.getD m 0 + sh k (cnt rs used) m + psum (rrF r rs used k m) c) (fun p _ => bs.length - (intOf p).toNat)
  case atStart => exact ⟨0, cur1, rfl, by omega, ho1, hb1, hl1, fun m hm => by rw [hadd1 m hm]; rfl⟩
  case round =>
    obtain ⟨c, cu, rfl, hc, hoc, hbc, hlc, hadd⟩ := hrel
    have HADD := Lib.hid hadd
    clear hadd hadd1
    by_cases hlt : c < bs.length
    · have hcw := (hbc.cell (p := ⟨b, off + i, none⟩) hbl).trans hci
      have hp := pow_in c (by omega)
      cases hrb : r.testBit c with
      | false =>
        have e1 := bit_walk0 (by omega) hr64 hrb
        have HF := Lib.hid (free_of hrb (rfl : used.testBit c = _))
        clear hrb
        go_wp2
        go_roundw
        case rel => exact ⟨c + 1, cu, by go_num, by omega, hoc, hbc, hlc, fun m hm => by rw [HADD.out m hm, psum]; simp [rrF, HF.out]⟩
        case measure => simp [intOf]; omega
      | true =>
        have e1 := bit_walk1 (by omega) hr64 hrb
        cases hub : used.testBit c with
        | true =>
          have e2 := bit_walk1 (by omega) hu hub
          have HF := Lib.hid (free_of hrb hub)
          clear hrb hub
          go_wp2
          go_roundw
          case rel => exact ⟨c + 1, cu, by go_num, by omega, hoc, hbc, hlc, fun m hm => by rw [HADD.out m hm, psum]; simp [rrF, HF.out]⟩
          case measure => simp [intOf]; omega
        | false =>
          have e2 := bit_walk0 (by omega) hu hub
          have HF := Lib.hid (free_of hrb hub)
          have hor := or_w hu (show c < 6 by omega)
          have hou := or_lt hu (show c < 6 by omega)
          have w2 : IntKind.i64.wrap ((k : Int) + 1) = ((k + 1 : Nat) : Int) := by rw [IntWalk.i64_in _ (by omega)]; omega
          clear hrb hub
          have hB2 : ∀ m, m < cu.length → cu.getD m 0 + sh (k + 1) (cnt rs (used ||| 2 ^ c)) m ≤ 1099511627776 := fun m hm => by
            refine Nat.le_trans ?_ (HB.out m (by omega))
            rw [HADD.out m (by omega), SH.out]
            have h1 : psum (rrF r rs used k m) (c + 1) ≤ psum (rrF r rs used k m) 6 := psum_le _ (by omega)
            rw [psum_six] at h1
            have h2 : rrF r rs used k m c = sh (k + 1) (cnt rs (used ||| 2 ^ c)) m := by simp [rrF, HF.out]
            rw [psum, h2] at h1
            have h3 : csum (rrF r rs used k m) = csum fun c => if free r used c = true then sh (k + 1) (cnt rs (used ||| 2 ^ c)) m else 0 := rfl
            omega
          go_wp2_with (go_at_call 52; refine (IH.out (used ||| 2 ^ c) (k + 1) cu wr hou hlc (by omega) hbc hoc hB2).mono ?_; rintro e w3 ⟨rfl, cur3, ho3, hb3, hl3, hadd3⟩)
          have HA3 := Lib.hid hadd3
          clear hadd3
          go_roundw
          case rel => exact ⟨c + 1, cur3, by go_num, by omega, ho3, hb3, by omega, fun m hm => by rw [HA3.out m (by omega), HADD.out m hm, psum]; simp [rrF, HF.out]; omega⟩
          case measure => simp [intOf]; omega
    · obtain rfl : c = bs.length := by omega
      go_wp2
      go_end0
      refine ⟨rfl, cu, hoc, hbc, hlc, fun m hm => ?_⟩
      rw [HADD.out m hm, SH.out]
      have := psum_zero (rrF r rs used k m) (b := 6) (show bs.length ≤ 6 by omega) (HZ.out m)
      rw [psum_six] at this
      have h3 : csum (rrF r rs used k m) = csum fun c => if free r used c = true then sh (k + 1) (cnt rs (used ||| 2 ^ c)) m else 0 := rfl
      omega

/-- **ref.rooks(a, i, used, k, counts)**. -/
theorem rr_any (v : Value) (bs : List Nat) (h : IsBoard bs) (W0 : World) (hv : Ints W0 v (toI bs)) (g cap N : Nat) (hN : N ≤ 1000) : ∀ (rs : List Nat) (i : Nat), bs.drop i = rs → i ≤ bs.length →
    ∀ (used k : Nat) (cur : List Nat) (W : World), used < 64 → cur.length = N → k + rs.length < cur.length → Below W0.heap.size W0 W → OwnI 3 W0.heap.size W (.slice (some ⟨g, 0, none⟩) N cap) (toI cur) →
      (∀ m, m < cur.length → cur.getD m 0 + sh k (cnt rs used) m ≤ 1099511627776) →
      Calls Tryd.prog 52 #[v, .int .i64 (i : Nat), .int .i64 used, .int .i64 k, .slice (some ⟨g, 0, none⟩) N cap] W (RrPost W0 (.slice (some ⟨g, 0, none⟩) N cap) k (cnt rs used) cur)
  | [], i, hd, hi, used, k, cur, W, hu, hl, hk, hb, ho, hbnd => by
    have : i = bs.length := by have := congrArg List.length hd; simp at this; omega
    subst this
    subst hl
    exact rr_leaf v bs W0 W hv used k g cap cur (by simpa using hk) hb ho (Nat.le_trans (Nat.le_add_right _ _) (hbnd k (by simpa using hk)))
  | r :: rs, i, hd, _, used, k, cur, W, hu, hl, hk, hb, ho, hbnd => by
    have hi : i < bs.length := by have := congrArg List.length hd; simp at this; omega
    have hd' : bs[i] :: bs.drop (i + 1) = r :: rs := by rw [← hd, List.drop_eq_getElem_cons hi]
    obtain ⟨hr, hrs⟩ := List.cons.inj hd'
    subst hl
    refine rr_node v bs h W0 W hv i used k r rs hi hr hu g cap cur (by simp at hk; omega) hN hb ho hbnd ?_
    intro used k cur' W hu hl' hk' hb' ho' hbnd'
    exact rr_any v bs h W0 hv g cap _ hN rs (i + 1) hrs (by omega) used k cur' W hu hl' hk' hb' ho' hbnd'
end Go.Proofs.YtlpnicfbgdfbnaaDoor
