/- Walks of small slice functions. -/
import Derived.Test.YtmlhecfhhhebnaaProg
import Derived.Test.YtmlhecfhhhebnaaRw
import Derived.WalkKit
import Derived.WalkSpells
import Derived.WalkLawsBesides
import Derived.BigQuiet
import Derived.Deep.QuietTactic
import Derived.Lib.SliceRun
namespace Go.Proofs.Ytmlhecfhhhebnaa
open Go.RowKit

set_option maxHeartbeats 400000 in
theorem Clone_any (v : Value) (xs : List Int) (w : World) (hv : Ints w v xs) :
    Calls Try.prog 35 #[v] w fun e w' => ∃ v', e = .returned v' ∧ OwnI 3 w.heap.size w' v' xs ∧ Below w.heap.size w w' := by
  obtain ⟨a, c, rfl, hlen, hcl, hc⟩ := hv
  obtain ⟨i0, hi, hz0, hz1, hz2⟩ := info_parts info3
  have q22 : ∀ (w : World) (a : Option Addr) (n c n' c' : Nat), (binOp .eql 24 (.slice a n c) (.slice none n' c')).run Try.prog w = .ok (.bool a.isNone) w := fun w a n c n' c' => Lib.run_eql_slice_nil w _ _ a n c n' c' Try.underlying24
  have A := Lib.hid hc
  clear hc
  cases a with
  | none =>
    have hx : xs = [] := by
      by_cases h : xs = []
      · exact h
      · obtain ⟨b, off, h1, _⟩ := A.out h; cases h1
    subst hx
    go_enter Try.func35, Try.ntmps35
    go_wp2
    go_ret
    exact ⟨_, rfl, OwnI.nil _ _ _, Below.refl _ _⟩
  | some ad =>
    go_enter Try.func35, Try.ntmps35
    go_wp2_with (at_builtin; refine wpList_append_own _ rfl _ _ 24 rfl w.heap.size 3 i0 (.int .i64 0) 1 8 Try.underlying24 hi hz0 hz1 hz2 rfl (by decide) _ _ _ rfl (World.ownsRow_made w #[] 0 (Nat.le_refl _) (Nat.zero_le _) rfl) ad xs.length c (xs.map (Value.int .i64)) rfl ?qc1 ?qc2 ?qc3 ?qc4 ?qc5 ?qc6 ?_)
    case qc1 => simp
    case qc2 =>
      intro j u hj
      have hjn : j < xs.length := by
        have := (List.getElem?_eq_some_iff.1 hj).1
        simpa using this
      obtain ⟨b, off, h1, hlt, hcell⟩ := A.out (by intro h; simp [h] at hjn)
      obtain rfl : ad = ⟨b, off, none⟩ := by simpa using h1
      rw [Addr.add_lit]
      refine Lib.cell?_alloc_some _ ?_
      rw [hcell j hjn]
      simpa [List.getElem?_eq_getElem hjn] using hj
    case qc3 => intro u hu; obtain ⟨x, _, rfl⟩ := List.mem_map.1 hu; rfl
    case qc4 => unfold maxLen; omega
    case qc5 => omega
    case qc6 => simp
    intro v' w1 hown hgrow hnil
    go_wp2
    go_ret
    refine ⟨v', rfl, by unfold OwnI; simpa using hown, ?_⟩
    exact ((Below.refl _ w).alloc (Nat.le_refl _) _).grown hgrow (by simp) (by intro k hk; simp [Value.ownBlock] at hk; omega)

theorem ints_take {w : World} {a : Option Addr} {xs : List Int} {c n : Nat} (hv : Ints w (.slice a xs.length c) xs) (hn : n ≤ xs.length) : Ints w (.slice a n c) (xs.take n) := by
  obtain ⟨a', c', he, hlen, hcl, hc⟩ := hv
  obtain ⟨rfl, _, rfl⟩ := Value.slice.inj he
  have hl : (xs.take n).length = n := by simp; omega
  refine ⟨a, c, by rw [hl], by omega, by omega, fun hne => ?_⟩
  obtain ⟨b, off, rfl, hlt, hcell⟩ := hc (by intro h; simp [h] at hne)
  exact ⟨b, off, rfl, hlt, fun i hi => by rw [hcell i (by omega)]; simp⟩

set_option maxHeartbeats 400000 in
theorem list_any (v : Value) (xs : List Int) (w : World) (hv : Ints w v xs) :
    Calls Try.prog 17 #[v] w fun e w' => ∃ v', e = .returned v' ∧ OwnI 3 w.heap.size w' v' (xs.take 34) ∧ Below w.heap.size w w' := by
  have hv' := hv
  obtain ⟨a, c, rfl, hlen, hcl, hc⟩ := hv
  clear hc
  by_cases h9 : 34 < xs.length
  · have h := ints_take hv' (n := 34) (by omega)
    clear hv'
    go_enter Try.func17, Try.ntmps17
    go_wp2_with (go_at_call 35; refine (Clone_any _ _ _ h).mono ?_; rintro e w' ⟨v', rfl, ho, hb⟩)
    go_ret
    exact ⟨v', rfl, ho, hb⟩
  · have h := hv'
    clear hv'
    go_enter Try.func17, Try.ntmps17
    go_wp2_with (go_at_call 35; refine (Clone_any _ _ _ h).mono ?_; rintro e w' ⟨v', rfl, ho, hb⟩)
    go_ret
    exact ⟨v', rfl, by rw [List.take_of_length_le (by omega)]; exact ho, hb⟩

end Go.Proofs.Ytmlhecfhhhebnaa
