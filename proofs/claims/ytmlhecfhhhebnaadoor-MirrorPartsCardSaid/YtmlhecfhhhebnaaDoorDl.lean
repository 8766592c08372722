/- letters: the walk. -/
import Derived.Test.YtmlhecfhhhebnaaDoorDc
namespace Go.Proofs.YtmlhecfhhhebnaaDoor
open Go.RowKit

def letN (ws : List Nat) : Nat := ws.foldl (fun o s => o ||| 2 ^ s) 0
theorem letN_snoc (ws : List Nat) (s : Nat) : letN (ws ++ [s]) = letN ws ||| 2 ^ s := by simp [letN]
theorem letN_16 : ∀ (ws : List Nat) (o : Nat), o < 16 → (∀ s ∈ ws, s < 4) → ws.foldl (fun o s => o ||| 2 ^ s) o < 16
  | [], _, h, _ => h
  | s :: ws, o, h, hs => by
    refine letN_16 ws _ (Nat.or_lt_two_pow (n := 4) h ?_) (fun x hx => hs x (List.mem_cons_of_mem _ hx))
    exact Nat.pow_lt_pow_right (by omega) (hs s List.mem_cons_self)

set_option maxRecDepth 20000 in
set_option maxHeartbeats 1000000 in
theorem letters_any (v : Value) (ws : List Nat) (w : World) (hv : Ints w v (toI ws)) (hws : ∀ s ∈ ws, s < 4) :
    Calls Tryd.prog 20 #[v] w fun e w' => e = .returned (.int .i64 ((letN ws : Nat) : Int)) ∧ w = w' := by
  obtain ⟨a, c, rfl, hlen, hcl, hc⟩ := hv.openN
  have HCC := Lib.hid hc
  have HWS := Lib.hid hws
  clear hv hc hws
  go_enter Tryd.func20, Tryd.ntmps20
  go_wp2
  go_loop [3, 8] (fun o ix => ∃ k : Nat, k ≤ ws.length ∧ ix = .int .i64 k ∧ o = .int .i64 ((letN (ws.take k) : Nat) : Int)) (fun _ i => ws.length - (intOf i).toNat)
  case atStart => exact ⟨0, Nat.zero_le _, rfl, rfl⟩
  case round =>
    obtain ⟨k, hkl, rfl, rfl⟩ := hrel
    by_cases hlt : k < ws.length
    · obtain ⟨b, off, rfl, hbl, hcell⟩ := HCC.out (ne_nil_of_lt hlt)
      have hcx := hcell k hlt
      have hki : (k : Int) < (ws.length : Int) := by omega
      have hsm := HWS.out _ (List.getElem_mem hlt)
      have h16 : letN (ws.take k) < 16 := letN_16 (ws.take k) 0 (by omega) (fun x hx => HWS.out x (List.mem_of_mem_take hx))
      have HT := Lib.hid (show letN (ws.take (k + 1)) = letN (ws.take k) ||| 2 ^ ws[k] by rw [take_succ' ws k hlt, letN_snoc])
      obtain ⟨s, hs⟩ : ∃ s, ws[k] = s := ⟨_, rfl⟩
      rw [hs] at hcx hsm HT
      have q1 := pow_inM s (by omega)
      have q2 := pow_inM64 s (by omega)
      have q3 := or_wM s (by omega) (letN (ws.take k)) h16
      obtain ⟨F, hF⟩ : ∃ F, letN (ws.take k) = F := ⟨_, rfl⟩
      rw [hF] at q3 HT h16 ⊢
      clear hs hF hcell
      go_wp2
      go_round
      case rel => exact ⟨k + 1, by omega, by go_num, by rw [HT.out]⟩
      case measure => simp [intOf]; omega
    · obtain rfl : k = ws.length := by omega
      have hki : ¬ ((ws.length : Nat) : Int) < (ws.length : Int) := by omega
      rw [List.take_length]
      go_wp2
      go_ret
      exact ⟨rfl, rfl⟩
end Go.Proofs.YtmlhecfhhhebnaaDoor
