/- ref.hits, board.hit: how many rooks of a permutation stand on the board. -/
import Derived.Test.YtlpnicfbgdfbnaaDoorRr2
namespace Go.Proofs.YtlpnicfbgdfbnaaDoor
open Go.RowKit

def hitN : List Nat → List Nat → Nat
  | r :: bs, c :: p => (if r.testBit c then 1 else 0) + hitN bs p
  | _, _ => 0
theorem hitN_nil (bs : List Nat) : hitN bs [] = 0 := by cases bs <;> rfl
theorem hitN_take_succ : ∀ (bs p : List Nat) (k : Nat) (hk : k < p.length) (hb : k < bs.length), hitN bs (p.take (k + 1)) = hitN bs (p.take k) + if bs[k].testBit p[k] then 1 else 0
  | [], _, _, _, hb => by simp at hb
  | _ :: _, [], _, hk, _ => by simp at hk
  | r :: bs, c :: p, 0, _, _ => by simp [hitN, hitN_nil]
  | r :: bs, c :: p, k + 1, hk, hb => by
    have := hitN_take_succ bs p k (by simpa using hk) (by simpa using hb)
    simp only [List.take_succ_cons, hitN, List.getElem_cons_succ] at this ⊢
    omega
theorem hitN_le : ∀ (bs p : List Nat), hitN bs p ≤ p.length
  | [], _ => by simp [hitN]
  | _ :: _, [] => by simp [hitN]
  | r :: bs, c :: p => by
    have := hitN_le bs p
    simp only [hitN, List.length_cons]
    split <;> omega

set_option maxRecDepth 20000 in
set_option maxHeartbeats 2000000 in
theorem refhits_any (v vp : Value) (bs p : List Nat) (w : World) (hv : Ints w v (toI bs)) (hp : Ints w vp (toI p)) (h64 : ∀ r ∈ bs, r < 64) (h6 : ∀ c ∈ p, c < 6) (hl : p.length ≤ bs.length) (hl6 : bs.length ≤ 6) :
    Calls Tryd.prog 54 #[v, vp] w fun e w' => e = .returned (.int .i64 (hitN bs p : Nat)) ∧ w = w' := by
  obtain ⟨a, c, rfl, hlen, hcl, hc⟩ := hv.openN
  obtain ⟨a', c', rfl, hlen', hcl', hc'⟩ := hp.openN
  clear hv hp
  go_enter Tryd.func54, Tryd.ntmps54
  go_wp2
  go_loopw [5, 10] (fun s p1 wr => ∃ k : Nat, p1 = .int .i64 k ∧ s = .int .i64 (hitN bs (p.take k) : Nat) ∧ k ≤ p.length ∧ wr = w) (fun _ p1 _ => p.length - (intOf p1).toNat)
  case atStart => exact ⟨0, rfl, by simp [hitN_nil], by omega, rfl⟩
  case round =>
    obtain ⟨k, rfl, rfl, hk, rfl⟩ := hrel
    by_cases hlt : k < p.length
    · obtain ⟨b, off, rfl, hbl, hcell⟩ := hc (ne_nil_of_lt (show k < bs.length by omega))
      obtain ⟨b2, off2, rfl, hbl2, hcell2⟩ := hc' (ne_nil_of_lt hlt)
      have c1 := hcell k (by omega)
      have c2 := hcell2 k hlt
      have hr := h64 _ (List.getElem_mem (show k < bs.length by omega))
      have hj := h6 _ (List.getElem_mem hlt)
      have hs := Lib.hid (hitN_take_succ bs p k hlt (by omega))
      have hle : hitN bs (p.take k) ≤ 6 := Nat.le_trans (hitN_le _ _) (by simp; omega)
      obtain ⟨s, hs0⟩ : ∃ s, hitN bs (p.take k) = s := ⟨_, rfl⟩
      obtain ⟨r, hr0⟩ : ∃ r, bs[k]'(by omega) = r := ⟨_, rfl⟩
      obtain ⟨j, hj0⟩ : ∃ j, p[k] = j := ⟨_, rfl⟩
      rw [hs0] at hs hle ⊢
      rw [hr0] at c1 hr hs
      rw [hj0] at c2 hj hs
      clear hcell hcell2 hc hc' hs0 hr0 hj0
      cases hb : r.testBit j with
      | false =>
        have e1 := bit_walk0 hj hr hb
        have w1 : IntKind.i64.wrap ((s : Int) + 0) = (s : Int) := by rw [Int.add_zero]; exact IntWalk.i64_in _ (by omega)
        have HS := Lib.hid (show hitN bs (p.take (k + 1)) = s by rw [hs.out, hb]; simp)
        clear hs hb
        go_wp2
        go_roundw
        case rel => exact ⟨k + 1, by go_num, by rw [HS.out], by omega, trivial⟩
        case measure => simp [intOf]; omega
      | true =>
        have e1 := bit_walk1 hj hr hb
        have w1 : IntKind.i64.wrap ((s : Int) + 1) = (s : Int) + 1 := IntWalk.i64_in _ (by omega)
        have HS := Lib.hid (show hitN bs (p.take (k + 1)) = s + 1 by rw [hs.out, hb]; simp)
        clear hs hb
        go_wp2
        go_roundw
        case rel => exact ⟨k + 1, by go_num, by rw [HS.out]; simp, by omega, trivial⟩
        case measure => simp [intOf]; omega
    · obtain rfl : k = p.length := by omega
      have HT := Lib.hid (show p.take p.length = p from List.take_length)
      go_wp2
      go_ret
      exact ⟨by rw [HT.out]; rfl, rfl⟩

set_option maxRecDepth 20000 in
set_option maxHeartbeats 2000000 in
theorem hit_any (v vp : Value) (bs p : List Nat) (w : World) (hv : Ints w v (toI bs)) (hp : Ints w vp (toI p)) (h64 : ∀ r ∈ bs, r < 64) (h6 : ∀ c ∈ p, c < 6) (hl : p.length ≤ bs.length) (hl6 : bs.length ≤ 6) :
    Calls Tryd.prog 51 #[v, vp] w fun e w' => e = .returned (.int .i64 (hitN bs p : Nat)) ∧ w = w' := by
  obtain ⟨a, c, rfl, hlen, hcl, hc⟩ := hv.openN
  obtain ⟨a', c', rfl, hlen', hcl', hc'⟩ := hp.openN
  clear hv hp
  go_enter Tryd.func51, Tryd.ntmps51
  go_wp2
  go_loopw [5, 10] (fun s p1 wr => ∃ k : Nat, p1 = .int .i64 k ∧ s = .int .i64 (hitN bs (p.take k) : Nat) ∧ k ≤ p.length ∧ wr = w) (fun _ p1 _ => p.length - (intOf p1).toNat)
  case atStart => exact ⟨0, rfl, by simp [hitN_nil], by omega, rfl⟩
  case round =>
    obtain ⟨k, rfl, rfl, hk, rfl⟩ := hrel
    by_cases hlt : k < p.length
    · obtain ⟨b, off, rfl, hbl, hcell⟩ := hc (ne_nil_of_lt (show k < bs.length by omega))
      obtain ⟨b2, off2, rfl, hbl2, hcell2⟩ := hc' (ne_nil_of_lt hlt)
      have c1 := hcell k (by omega)
      have c2 := hcell2 k hlt
      have hr := h64 _ (List.getElem_mem (show k < bs.length by omega))
      have hj := h6 _ (List.getElem_mem hlt)
      have hs := Lib.hid (hitN_take_succ bs p k hlt (by omega))
      have hle : hitN bs (p.take k) ≤ 6 := Nat.le_trans (hitN_le _ _) (by simp; omega)
      obtain ⟨s, hs0⟩ : ∃ s, hitN bs (p.take k) = s := ⟨_, rfl⟩
      obtain ⟨r, hr0⟩ : ∃ r, bs[k]'(by omega) = r := ⟨_, rfl⟩
      obtain ⟨j, hj0⟩ : ∃ j, p[k] = j := ⟨_, rfl⟩
      rw [hs0] at hs hle ⊢
      rw [hr0] at c1 hr hs
      rw [hj0] at c2 hj hs
      clear hcell hcell2 hc hc' hs0 hr0 hj0
      cases hb : r.testBit j with
      | false =>
        have e1 := bit_walk0 hj hr hb
        have w1 : IntKind.i64.wrap ((s : Int) + 0) = (s : Int) := by rw [Int.add_zero]; exact IntWalk.i64_in _ (by omega)
        have HS := Lib.hid (show hitN bs (p.take (k + 1)) = s by rw [hs.out, hb]; simp)
        clear hs hb
        go_wp2
        go_roundw
        case rel => exact ⟨k + 1, by go_num, by rw [HS.out], by omega, trivial⟩
        case measure => simp [intOf]; omega
      | true =>
        have e1 := bit_walk1 hj hr hb
        have w1 : IntKind.i64.wrap ((s : Int) + 1) = (s : Int) + 1 := IntWalk.i64_in _ (by omega)
        have HS := Lib.hid (show hitN bs (p.take (k + 1)) = s + 1 by rw [hs.out, hb]; simp)
        clear hs hb
        go_wp2
        go_roundw
        case rel => exact ⟨k + 1, by go_num, by rw [HS.out]; simp, by omega, trivial⟩
        case measure => simp [intOf]; omega
    · obtain rfl : k = p.length := by omega
      have HT := Lib.hid (show p.take p.length = p from List.take_length)
      go_wp2
      go_ret
      exact ⟨by rw [HT.out]; rfl, rfl⟩
end Go.Proofs.YtlpnicfbgdfbnaaDoor
