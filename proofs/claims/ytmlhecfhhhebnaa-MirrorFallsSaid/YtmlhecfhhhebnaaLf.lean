/- Leave where it answers: the program's walk. -/
import Derived.Test.YtmlhecfhhhebnaaLe
import Derived.Deep.QuietTactic
import Derived.BigQuiet
namespace Go.Proofs.Ytmlhecfhhhebnaa
open Go.RowKit

theorem toI_dropN (bs : List Nat) (n : Nat) : (toI bs).drop n = toI (bs.drop n) := by simp [toI, List.map_drop]

set_option maxRecDepth 20000 in
set_option maxHeartbeats 2000000 in
theorem Leave_yes (K n : Nat) (v : Value) (xs : List Int) (s : Nat) (w : World) (hv : validB K n = true) (hx : Ints w v xs) (h : wordB (mirs K n) xs = true) (hs : s < mirs K n) (hl : lenX (wordsG K n) (ix K n xs) = xs.length) :
    Calls Try.prog 27 #[.agg #[.int .u8 (K : Nat), .int .i64 (n : Nat)], v, .int .i64 (s : Nat)] w (LeaveOut (leaveAt (nextG K n) (natW xs) (stepX (nextG K n) (ix K n xs) s)) w) := by
  obtain ⟨iu, hiu⟩ : ∃ iu, ix K n xs = iu := ⟨_, rfl⟩
  have RD := Lib.hid (fun w' v' (ha : Args w' v' [xs]) => by have := read_yes K n v' [xs] w' hv ha (by simpa using h); rw [List.map_cons, List.map_nil, hiu] at this; exact this)
  have HX := Lib.hid (fun o : Obj => hx.below ((Below.refl _ _).alloc (Nat.le_refl _) o))
  have MR := Lib.hid (fun w' => mirrors_nat K n hv w')
  have LN := Lib.hid (fun (bT : Nat) (w' : World) (ht : TabIs K n (wordsG K n) (nextG K n) w' bT) => by have := length_any bT (ix K n xs) w' ht (tkG hv) (ix_lt hv h); rw [hl] at this; exact this)
  have hn := word_nat h
  have hnl := natW_length xs
  have HXB := Lib.hid (fun w' (hb : Below w.heap.size w w') => hx.below hb)
  have WQ := Lib.hid (fun (bT u : Nat) (v' : Value) (ws : List Nat) (w' : World) (ht : TabIs K n (wordsG K n) (nextG K n) w' bT) (hv' : Ints w' v' (toI ws)) (hu : u < (wordsG K n).length) (hws : ∀ s ∈ ws, s < mirs K n) => (walk_any bT u v' ws w' ht (tkG hv) hv' hu hws).mono (fun e w'' (hh : e = .returned (.int .i64 ((walkX (nextG K n) u ws : Nat) : Int)) ∧ w' = w'') => (⟨hh.1, hh.2.symm⟩ : e = .returned (.int .i64 ((walkX (nextG K n) u ws : Nat) : Int)) ∧ w'' = w')))
  have hxl := hn.2.2
  have hm4 := mirs_le hv
  have hul := ix_lt hv h
  rw [hiu] at LN hul hl
  rw [hiu]
  obtain ⟨r, hr1, hr2, hr3, hr4⟩ := (tkG hv).rowAt hul
  have huX : iu < (nextG K n).length := by rw [(tkG hv).lx]; exact hul
  have HST := Lib.hid (show stepX (nextG K n) iu s = r.getD s 0 by unfold stepX; rw [hr2])
  have hsr : s < r.length := by omega
  have HG := Lib.hid (getDN (l := r) (i := s) hsr)
  obtain ⟨y, hy⟩ : ∃ y, r[s] = y := ⟨_, rfl⟩
  have HTO := Lib.hid (show stepX (nextG K n) iu s = y by rw [HST.out, HG.out, hy])
  rw [HTO.out]
  have HCX := Lib.hid (fun (w' : World) (bT : Nat) (ht : TabIs K n (wordsG K n) (nextG K n) w' bT) => next_at ht huX hr1 hsr hy)
  obtain ⟨m, hm⟩ : ∃ m, mirs K n = m := ⟨_, rfl⟩
  have HWS := Lib.hid hn.2.1
  have HN1 := Lib.hid hn.1
  have HNL := Lib.hid hnl
  have HK := Lib.hid (tkG hv)
  rw [hm] at MR hs hm4 WQ HWS HK
  have hsm : (s : Int) < (m : Int) := by omega
  have d0 : decide ((s : Int) < 0) = false := by simp
  have d1 : decide (m ≤ s) = false := by simp; omega
  have d1' : ¬ m ≤ s := by omega
  have hul0 : (iu : Int) < ((nextG K n).length : Int) := by omega
  have hsri : (s : Int) < (r.length : Int) := by omega
  have hi0 : (0 : Int) ≤ (iu : Int) := by omega
  have hs0 : (0 : Int) ≤ (s : Int) := by omega
  obtain ⟨a, c, rfl, hx1⟩ := hx
  have HC1 := Lib.hid hx1
  clear h hx1 hv hm hn hnl hr1 hr2 hr3 hr4 hiu hl hs hy HST HG huX hsr
  go_enter Try.func27, Try.ntmps27
  go_wp2_with (first
    | (go_at_call 67; refine (LN.out bT _ (ht1.below hb2)).mono ?_; rintro e w3 ⟨rfl, rfl⟩)
    | (go_at_call 66; refine (MR.out _).mono ?_; rintro e w2 ⟨rfl, hb2⟩; have hc2 := ((ho1.below hb2).cellN 0 (by simp)))
    | (go_at_call 59; refine (RD.out _ _ (args1 (HX.out _) _ (by simp))).mono ?_; rintro e w1 ⟨bT, v1, rfl, ht1, ho1, hb1⟩; obtain ⟨g1, c1, rfl, hc1⟩ := own_one ho1; have hB := below_al2 (Nat.le_refl _) hb1; have gg0 := (((Held.made (w := w) (l := [.int .u8 (K : Nat), .int .i64 (n : Nat)]) (t := 28) rfl).alloc _).below hb1 (by simp; omega)).at (i := 0) rfl; have gg1 := (((Held.made (w := w) (l := [.int .u8 (K : Nat), .int .i64 (n : Nat)]) (t := 28) rfl).alloc _).below hb1 (by simp; omega)).at (i := 1) rfl))
  have HT2 := Lib.hid (ht1.below hb2)
  have HB2 := Lib.hid (hB.trans (hb2.mono hB.size))
  obtain ⟨g, cap, b, off, rc, q1, q2, q3⟩ := HCX.out w2 bT HT2.out
  have q0 : w2.cell? ⟨g1, 0, none⟩ = some (.int .i64 (iu : Nat)) := by simpa using hc2
  clear hc2 hc1 ho1 ht1 hb1 hb2 hB gg0 gg1
  go_quiet (fail)
  clear q0 q1 q2 q3 hi0 hs0 hul0 hsri
  go_upto_region 6 with (fail)
  go_loopw [57] (fun ix wr => ∃ k : Nat, k ≤ xs.length ∧ ix = .int .i64 (k : Nat) ∧ (∀ j, j < k → delX (nextG K n) (natW xs) j ≠ y) ∧ Below w2.heap.size w2 wr) (fun ix _ => xs.length - (intOf ix).toNat)
  case atStart => exact ⟨0, Nat.zero_le _, rfl, fun j h => by omega, below_drewM (Below.refl _ _) _⟩
  case round =>
    obtain ⟨k, hk, rfl, hdel, hb⟩ := hrel
    have HDEL := Lib.hid hdel
    have HB := Lib.hid hb
    clear hdel hb
    by_cases hlt : k < xs.length
    · obtain ⟨b0, off0, rfl, hbl, _⟩ := HC1.out.2.2 (ne_nil_of_lt hlt)
      have hki : (k : Int) < (xs.length : Int) := by omega
      have HBR := Lib.hid (HB2.out.trans (HB.out.mono HB2.out.size))
      have hvr := HXB.out wr HBR.out
      have hcl : xs.length ≤ c := HC1.out.2.1
      have hd1 := ints_drop hvr (k := k + 1) (by omega)
      have ht1 := ints_takeN hvr (k := k) hk
      have e1 : xs.take k = toI ((natW xs).take k) := by rw [← toI_take, HN1.out]
      have e2 : xs.drop (k + 1) = toI ((natW xs).drop (k + 1)) := by rw [← toI_dropN, HN1.out]
      rw [e1] at ht1
      rw [e2] at hd1
      clear e1 e2
      obtain ⟨adt, hadt⟩ : ∃ adt : Option Addr, (if c = k + 1 then some (⟨b0, off0, none⟩ : Addr) else some ⟨b0, off0 + (k + 1), none⟩) = adt := ⟨_, rfl⟩
      rw [hadt] at hd1
      have hw1 : ∀ s ∈ (natW xs).take k, s < m := fun s hs => HWS.out s (List.mem_of_mem_take hs)
      have hw2 : ∀ s ∈ (natW xs).drop (k + 1), s < m := fun s hs => HWS.out s (List.mem_of_mem_drop hs)
      have hu1 := HK.out.walk _ 0 HK.out.pos hw1
      have HDX := Lib.hid (show delX (nextG K n) (natW xs) k = walkX (nextG K n) (walkX (nextG K n) 0 ((natW xs).take k)) ((natW xs).drop (k + 1)) from rfl)
      obtain ⟨u1, hu1e⟩ : ∃ u1, walkX (nextG K n) 0 ((natW xs).take k) = u1 := ⟨_, rfl⟩
      rw [hu1e] at hu1 HDX
      have W1 := Lib.hid (fun (w' : World) (hb' : Below wr.heap.size wr w') => by have := WQ.out bT 0 (.slice (some ⟨b0, off0, none⟩) k c) ((natW xs).take k) w' ((HT2.out.below HB.out).below hb') (ht1.below hb') HK.out.pos hw1; rw [hu1e, show (((0 : Nat) : Int)) = (0 : Int) from rfl] at this; exact this)
      obtain ⟨u2, hu2e⟩ : ∃ u2, walkX (nextG K n) u1 ((natW xs).drop (k + 1)) = u2 := ⟨_, rfl⟩
      rw [hu2e] at HDX
      have W2 := Lib.hid (fun (w' : World) (hb' : Below wr.heap.size wr w') => by have := WQ.out bT u1 (.slice adt (xs.length - (k + 1)) (c - (k + 1))) ((natW xs).drop (k + 1)) w' ((HT2.out.below HB.out).below hb') (hd1.below hb') hu1 hw2; rw [hu2e] at this; exact this)
      have HLT := Lib.hid hlt
      have f1 : IntKind.i64.wrap ((k : Int) + 1) = (k : Int) + 1 := IntWalk.i64_in _ (by omega)
      have f2 : (0 : Int) ≤ (k : Int) + 1 := by omega
      have f3 : ((k : Int) + 1).toNat = k + 1 := by omega
      have f4 : (k : Int) + 1 ≤ (xs.length : Int) := by omega
      have f5 : (k : Int) ≤ (c : Int) := by omega
      have f6 : (0 : Int) ≤ (k : Int) := by omega
      have hc0 : ¬ c = 0 := by omega
      clear hvr ht1 hd1 hw1 hw2 hu1e hu2e hu1 hbl
      by_cases he : u2 = y
      · subst he
        have HF := Lib.hid (leave_some (X := nextG K n) (ws := natW xs) (by rw [HNL.out]; exact hlt) HDX.out HDEL.out)
        clear hlt
        go_upto_region 8 with (fail)
        go_quiet (first
          | (go_at_call 61; (with_reducible refine Calls.quiet_of_same (W2.out _ ?_)); first | exact below_drewM (Below.refl _ _) _ | exact (Below.refl _ _).drew)
          | (go_at_call 61; (with_reducible refine Calls.quiet_of_same (W1.out _ ?_)); first | exact below_drewM (Below.refl _ _) _ | exact (Below.refl _ _).drew))
        go_wp2
        go_ret2
        exact ⟨by rw [HF.out]; rfl, below_drewM HBR.out _⟩
      · have HNE := Lib.hid (fun j (hj : j < k + 1) => show delX (nextG K n) (natW xs) j ≠ y by
          by_cases e : j = k
          · subst e; rw [HDX.out]; exact he
          · exact HDEL.out j (by omega))
        have he2 : ((u2 : Int) == (y : Int)) = false := by simp; omega
        have he3 : (u2 == y) = false := by simp; omega
        clear hlt
        go_upto_region 8 with (fail)
        go_quiet (first
          | (go_at_call 61; (with_reducible refine Calls.quiet_of_same (W2.out _ ?_)); first | exact below_drewM (Below.refl _ _) _ | exact (Below.refl _ _).drew)
          | (go_at_call 61; (with_reducible refine Calls.quiet_of_same (W1.out _ ?_)); first | exact below_drewM (Below.refl _ _) _ | exact (Below.refl _ _).drew))
        clear f1 f2 f3 f4 f5 f6
        go_wp2
        go_roundw
        case rel => exact ⟨k + 1, by have := HLT.out; omega, by go_num, HNE.out, below_drewM HB.out _⟩
        case measure => have := HLT.out; simp [intOf]; omega
    · obtain rfl : k = xs.length := by omega
      have hki : ¬ ((xs.length : Nat) : Int) < (xs.length : Int) := by omega
      have HF := Lib.hid (leave_none (X := nextG K n) (ws := natW xs) (tg := y) (by rw [HNL.out]; exact HDEL.out))
      go_wp2
      go_ret2
      exact ⟨by rw [HF.out]; rfl, HB2.out.trans (HB.out.mono HB2.out.size)⟩
end Go.Proofs.Ytmlhecfhhhebnaa
