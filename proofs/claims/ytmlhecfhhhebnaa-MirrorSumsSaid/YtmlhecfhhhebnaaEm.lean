/- The reference's Elements: the walk. -/
import Derived.Test.YtmlhecfhhhebnaaEj
namespace Go.Proofs.Ytmlhecfhhhebnaa
open Go.RowKit

def El12 (H N bT s i cW xc gW : Nat) (S : Nat → Prop) (xa : Option Addr) (wd : List Nat) (Wd : List (List Nat)) : Bool → Nat → (Nat → Value) → World → Prop
  | _, 0, y, _ => y 47 = .pointer (some ⟨bT, 0, none⟩)
  | _, 1, y, _ => y 48 = .slice (some ⟨gW, 0, none⟩) Wd.length cW
  | _, 2, y, _ => y 49 = .pointer (some ⟨bT, 0, none⟩)
  | _, 3, y, _ => y 50 = .slice (some ⟨gW, 0, none⟩) Wd.length cW
  | _, 4, y, _ => y 51 = .int .i64 (i : Nat)
  | _, 5, y, _ => y 52 = .pointer (some ⟨gW, i, none⟩)
  | _, 6, y, _ => y 53 = .slice xa wd.length xc
  | _, 7, y, _ => y 54 = .pointer (some ⟨bT, 0, none⟩)
  | _, 8, y, _ => y 55 = .slice (some ⟨gW, 0, none⟩) Wd.length cW
  | _, 9, y, _ => y 56 = .int .i64 (i : Nat)
  | _, 10, y, _ => y 57 = .pointer (some ⟨gW, i, none⟩)
  | _, 11, y, _ => y 58 = .slice xa wd.length xc
  | _, 12, y, _ => y 59 = .int .i64 (wd.length : Nat)
  | _, 13, y, _ => y 60 = .pointer (some ⟨bT, 0, none⟩)
  | _, 14, y, _ => y 61 = .slice (some ⟨gW, 0, none⟩) Wd.length cW
  | _, 15, y, _ => y 62 = .int .i64 (i : Nat)
  | _, 16, y, _ => y 63 = .pointer (some ⟨gW, i, none⟩)
  | _, 17, y, _ => y 64 = .slice xa wd.length xc
  | _, 18, y, _ => y 65 = .int .i64 (wd.length : Nat)
  | _, 19, y, _ => y 66 = .slice xa wd.length wd.length
  | _, 20, y, _ => y 67 = .int .i64 (s : Nat)
  | _, 21, y, w => ∃ b, y 68 = .slice (some ⟨b, 0, none⟩) 1 1 ∧ N ≤ b ∧ Held w b 3 [.int .i64 (s : Nat)]
  | _, 22, y, w => OwnI 3 N w (y 69) (toI (wd ++ [s]))
  | _, 23, y, w => ∃ b, y 70 = .slice (some ⟨b, 0, none⟩) 1 1 ∧ N ≤ b ∧ Held w b 24 [y 69]
  | _, 24, y, w => RowsF (fun k => S k ∨ (y 69).ownBlock = some k) H w (y 71) (Wd ++ [wd ++ [s]]) ∧ ((y 71).ownBlock = some gW ∨ ∃ b, (y 71).ownBlock = some b ∧ N ≤ b)
  | _, 25, y, _ => y 72 = .pointer (some ⟨bT, 0, none⟩)
  | _, _, _, _ => True
theorem El12_keep (H N bT s i cW xc gW : Nat) (S : Nat → Prop) (xa : Option Addr) (wd : List Nat) (Wd : List (List Nat)) : ∀ (f : Bool) (j : Nat) (y : Nat → Value) (wa wb : World), Below wa.heap.size wa wb → El12 H N bT s i cW xc gW S xa wd Wd f j y wa → El12 H N bT s i cW xc gW S xa wd Wd f j y wb := by
  intro f j y wa wb hx hv
  match j, hv with
  | 0, hv => exact hv
  | 1, hv => exact hv
  | 2, hv => exact hv
  | 3, hv => exact hv
  | 4, hv => exact hv
  | 5, hv => exact hv
  | 6, hv => exact hv
  | 7, hv => exact hv
  | 8, hv => exact hv
  | 9, hv => exact hv
  | 10, hv => exact hv
  | 11, hv => exact hv
  | 12, hv => exact hv
  | 13, hv => exact hv
  | 14, hv => exact hv
  | 15, hv => exact hv
  | 16, hv => exact hv
  | 17, hv => exact hv
  | 18, hv => exact hv
  | 19, hv => exact hv
  | 20, hv => exact hv
  | 21, hv =>
    have hv' : El12 H N bT s i cW xc gW S xa wd Wd f 21 y wa := hv
    obtain ⟨b, e, hb, hm⟩ := hv'
    exact ⟨b, e, hb, hm.below hx hm.lt⟩
  | 22, hv =>
    have hv' : El12 H N bT s i cW xc gW S xa wd Wd f 22 y wa := hv
    exact OwnI.below hv' hx
  | 23, hv =>
    have hv' : El12 H N bT s i cW xc gW S xa wd Wd f 23 y wa := hv
    obtain ⟨b, e, hb, hm⟩ := hv'
    exact ⟨b, e, hb, hm.below hx hm.lt⟩
  | 24, hv =>
    have hv' : El12 H N bT s i cW xc gW S xa wd Wd f 24 y wa := hv
    exact ⟨hv'.1.kept (S' := fun _ => True) (Sm.of_below hx) (fun _ _ => trivial) (fun _ _ => trivial), hv'.2⟩
  | 25, hv => exact hv
  | _ + 26, _ => trivial
theorem El12_turn (H N bT s i cW xc gW : Nat) (S : Nat → Prop) (xa : Option Addr) (wd : List Nat) (Wd : List (List Nat)) {wa wb : World} (hs : Sm (fun k => k ≠ gW) wa wb) (hg : gW < N) : ∀ (j : Nat) (y : Nat → Value), j ≠ 24 → El12 H N bT s i cW xc gW S xa wd Wd false j y wa → El12 H N bT s i cW xc gW S xa wd Wd true j y wb := by
  intro j y hj hv
  match j, hj, hv with
  | 0, _, hv => exact hv
  | 1, _, hv => exact hv
  | 2, _, hv => exact hv
  | 3, _, hv => exact hv
  | 4, _, hv => exact hv
  | 5, _, hv => exact hv
  | 6, _, hv => exact hv
  | 7, _, hv => exact hv
  | 8, _, hv => exact hv
  | 9, _, hv => exact hv
  | 10, _, hv => exact hv
  | 11, _, hv => exact hv
  | 12, _, hv => exact hv
  | 13, _, hv => exact hv
  | 14, _, hv => exact hv
  | 15, _, hv => exact hv
  | 16, _, hv => exact hv
  | 17, _, hv => exact hv
  | 18, _, hv => exact hv
  | 19, _, hv => exact hv
  | 20, _, hv => exact hv
  | 21, _, hv =>
    have hv' : El12 H N bT s i cW xc gW S xa wd Wd false 21 y wa := hv
    obtain ⟨b, e, hb, hm⟩ := hv'
    exact ⟨b, e, hb, hm.sm hs (by omega)⟩
  | 22, _, hv =>
    have hv' : El12 H N bT s i cW xc gW S xa wd Wd false 22 y wa := hv
    exact own_sm hv' hs (fun j hj => by have := (World.ownsRow.lt hv' j hj).1; omega)
  | 23, _, hv =>
    have hv' : El12 H N bT s i cW xc gW S xa wd Wd false 23 y wa := hv
    obtain ⟨b, e, hb, hm⟩ := hv'
    exact ⟨b, e, hb, hm.sm hs (by omega)⟩
  | 24, hj, _ => exact absurd rfl hj
  | 25, _, hv => exact hv
  | _ + 26, _, _ => trivial

def El22 (H N bT s i cP gP rc : Nat) (K n : Nat) (ra : Option Addr) (vR vW vX : Value) (p q Q rowl : List Nat) (Pt : List (List Nat)) (z : Nat) : Bool → Nat → (Nat → Value) → World → Prop
  | _, 0, y, _ => y 91 = vR
  | _, 1, y, _ => y 92 = .agg #[vW, .slice (some ⟨gP, 0, none⟩) Pt.length cP, vX]
  | _, 2, y, _ => y 93 = .pointer (some ⟨bT, 1, none⟩)
  | _, 3, y, _ => y 94 = .slice (some ⟨gP, 0, none⟩) Pt.length cP
  | _, 4, y, _ => y 95 = .int .i64 (i : Nat)
  | _, 5, y, _ => y 96 = .pointer (some ⟨gP, i, none⟩)
  | _, 6, y, _ => y 97 = .slice ra p.length rc
  | _, 7, y, _ => y 98 = .agg #[.int .u8 (K : Nat), .int .i64 (n : Nat)]
  | _, 8, y, _ => y 99 = .int .i64 (s : Nat)
  | f, 9, y, w => f = false → Ints w (y 100) (toI q)
  | f, 10, y, w => f = false → Ints w (y 101) (toI Q)
  | _, 11, y, _ => y 102 = .int .i64 (z : Nat)
  | _, 12, y, w => ∃ b, y 103 = .slice (some ⟨b, 0, none⟩) 1 1 ∧ N ≤ b ∧ Held w b 3 [.int .i64 (z : Nat)]
  | _, 13, y, w => OwnI 3 H w (y 104) (toI (rowl ++ [z])) ∧ ((y 104).ownBlock = vR.ownBlock ∨ ∃ b, (y 104).ownBlock = some b ∧ N ≤ b)
  | _, _, _, _ => True
theorem El22_keep (H N bT s i cP gP rc : Nat) (K n : Nat) (ra : Option Addr) (vR vW vX : Value) (p q Q rowl : List Nat) (Pt : List (List Nat)) (z : Nat) : ∀ (f : Bool) (j : Nat) (y : Nat → Value) (wa wb : World), Below wa.heap.size wa wb → El22 H N bT s i cP gP rc K n ra vR vW vX p q Q rowl Pt z f j y wa → El22 H N bT s i cP gP rc K n ra vR vW vX p q Q rowl Pt z f j y wb := by
  intro f j y wa wb hx hv
  match j, hv with
  | 0, hv => exact hv
  | 1, hv => exact hv
  | 2, hv => exact hv
  | 3, hv => exact hv
  | 4, hv => exact hv
  | 5, hv => exact hv
  | 6, hv => exact hv
  | 7, hv => exact hv
  | 8, hv => exact hv
  | 9, hv =>
    have hv' : El22 H N bT s i cP gP rc K n ra vR vW vX p q Q rowl Pt z f 9 y wa := hv
    exact fun hf => Ints.below (hv' hf) hx
  | 10, hv =>
    have hv' : El22 H N bT s i cP gP rc K n ra vR vW vX p q Q rowl Pt z f 10 y wa := hv
    exact fun hf => Ints.below (hv' hf) hx
  | 11, hv => exact hv
  | 12, hv =>
    have hv' : El22 H N bT s i cP gP rc K n ra vR vW vX p q Q rowl Pt z f 12 y wa := hv
    obtain ⟨b, e, hb, hm⟩ := hv'
    exact ⟨b, e, hb, hm.below hx hm.lt⟩
  | 13, hv =>
    have hv' : El22 H N bT s i cP gP rc K n ra vR vW vX p q Q rowl Pt z f 13 y wa := hv
    exact ⟨OwnI.below hv'.1 hx, hv'.2⟩
  | _ + 14, _ => trivial
theorem El22_turn (H N bT s i cP gP rc : Nat) (K n : Nat) (ra : Option Addr) (vR vW vX : Value) (p q Q rowl : List Nat) (Pt : List (List Nat)) (z : Nat) {wa wb : World} (hs : Sm (fun k => some k ≠ vR.ownBlock) wa wb) (hg : ∀ k, vR.ownBlock = some k → k < N) : ∀ (j : Nat) (y : Nat → Value), j ≠ 13 → El22 H N bT s i cP gP rc K n ra vR vW vX p q Q rowl Pt z false j y wa → El22 H N bT s i cP gP rc K n ra vR vW vX p q Q rowl Pt z true j y wb := by
  intro j y hj hv
  match j, hj, hv with
  | 0, _, hv => exact hv
  | 1, _, hv => exact hv
  | 2, _, hv => exact hv
  | 3, _, hv => exact hv
  | 4, _, hv => exact hv
  | 5, _, hv => exact hv
  | 6, _, hv => exact hv
  | 7, _, hv => exact hv
  | 8, _, hv => exact hv
  | 9, _, hv =>
    have hv' : El22 H N bT s i cP gP rc K n ra vR vW vX p q Q rowl Pt z false 9 y wa := hv
    exact fun hf => nomatch hf
  | 10, _, hv =>
    have hv' : El22 H N bT s i cP gP rc K n ra vR vW vX p q Q rowl Pt z false 10 y wa := hv
    exact fun hf => nomatch hf
  | 11, _, hv => exact hv
  | 12, _, hv =>
    have hv' : El22 H N bT s i cP gP rc K n ra vR vW vX p q Q rowl Pt z false 12 y wa := hv
    obtain ⟨b, e, hb, hm⟩ := hv'
    exact ⟨b, e, hb, hm.sm hs (fun e2 => by have := hg b e2.symm; omega)⟩
  | 13, hj, _ => exact absurd rfl hj
  | _ + 14, _, _ => trivial

set_option maxRecDepth 20000 in
set_option maxHeartbeats 16000000 in
theorem Elements_any (K n : Nat) (w : World) (hv : validB K n = true) :
    Calls Try.prog 21 #[.agg #[.int .u8 (K : Nat), .int .i64 (n : Nat)]] w (ElOut K n w) := by
  have MV := Lib.hid (fun w' => moves_any K n 0 w' (moves_ok hv (mirs_pos hv)))
  have hp := pt_of hv (mirs_pos hv)
  have AF := Lib.hid (fun (w' : World) (va vs : Value) (h1 : Ints w' va (toI (movesN K n 0))) (h2 : Ints w' vs (toI (movesN K n 0))) => after_any va vs _ _ w' h1 h2 hp.2.2 (by omega))
  have RM := Lib.hid (fun w' => RMirrors_any K n w' hv)
  have hpl : (toI (movesN K n 0)).length ≤ 17592186044416 := by rw [toI_length]; omega
  go_enter Try.func21, Try.ntmps21
  go_upto_region 2 with (fail)
  have h1 : HdI K n w.heap.size w (((w.alloc (.cells #[.int .u8 (K : Nat), .int .i64 (n : Nat)] 23)).alloc (.cells #[.slice none 0 0, .slice none 0 0, .slice none 0 0] 36)).alloc (.cells #[.slice none 0 0, .slice none 0 0, .slice none 0 0] 36)) :=
    ⟨((Held.made (l := [.int .u8 (K : Nat), .int .i64 (n : Nat)]) rfl).alloc _).alloc _, (Held.made (l := [.slice none 0 0, .slice none 0 0, .slice none 0 0]) (by simp)).alloc _, Held.made (l := [.slice none 0 0, .slice none 0 0, .slice none 0 0]) (by simp), (((Below.refl _ _).alloc (Nat.le_refl _) _).alloc (by simp) _).alloc (by simp; omega) _, by simp⟩
  obtain ⟨W1, hW1⟩ : ∃ W1, (((w.alloc (.cells #[.int .u8 (K : Nat), .int .i64 (n : Nat)] 23)).alloc (.cells #[.slice none 0 0, .slice none 0 0, .slice none 0 0] 36)).alloc (.cells #[.slice none 0 0, .slice none 0 0, .slice none 0 0] 36)) = W1 := ⟨_, rfl⟩
  rw [hW1] at h1
  rw [hW1]
  clear hW1
  have c0 := h1.hg.at (i := 0) rfl
  have c1 := h1.hg.at (i := 1) rfl
  go_cut [4] from 11 to 15 (fun v wq => OwnI 3 (w.heap.size + 1 + 1 + 1) wq v (toI (afterN (movesN K n 0) (movesN K n 0))) ∧ HdI K n w.heap.size w wq)
  case first =>
    have H1 := Lib.hid h1
    clear h1
    go_region_with (first
      | (go_at_call 62; refine (AF.out _ _ _ (by first | exact (hoA.below hbB).ints hpl | exact hoB.ints hpl) (by first | exact (hoA.below hbB).ints hpl | exact hoB.ints hpl)).mono ?_; rintro e wC ⟨vC, rfl, hoC, hbC⟩)
      | (go_at_call 63; have tk := hoA; refine (MV.out _).mono ?_; rintro e wB ⟨vB, rfl, hoB, hbB⟩; have dB := dA.below hbB)
      | (go_at_call 63; refine (MV.out _).mono ?_; rintro e wA ⟨vA, rfl, hoA, hbA⟩; have dA : HdI K n w.heap.size w wA := (by first | exact H1.out.below hbA | exact H1.out.drew.below hbA); have a0 := dA.hg.at (i := 0) rfl; have a1 := dA.hg.at (i := 1) rfl))
    all_goals (go_wp2_with fail; go_meet)
    all_goals exact ⟨hoC.mono dB.hs, dB.below hbC⟩
  case rest =>
    rename_i wc
    obtain ⟨ho, h1⟩ := hcut
    have hp0 : (afterN (movesN K n 0) (movesN K n 0)).length ≤ 100 := by unfold afterN; rw [List.length_map]; exact hp.1
    obtain ⟨p0, hp0e⟩ : ∃ p0, afterN (movesN K n 0) (movesN K n 0) = p0 := ⟨_, rfl⟩
    rw [hp0e] at ho hp0
    obtain ⟨a4, c4, rfl⟩ := ho.form
    rw [toI_length] at *
    obtain ⟨S, he⟩ := ElI.first h1 ho (by omega)
    have hbF : Below w.heap.size w (((((wc.alloc (.cells #[] 3)).alloc (.cells #[.slice (some ⟨wc.heap.size, 0, none⟩) 0 0] 24)).alloc (.cells #[.slice a4 p0.length c4] 24)).setCell ⟨w.heap.size + 1 + 1, 0, none⟩ (.slice (some ⟨wc.heap.size + 1, 0, none⟩) 1 1)).setCell ⟨w.heap.size + 1 + 1, 1, none⟩ (.slice (some ⟨wc.heap.size + 1 + 1, 0, none⟩) 1 1)) := by
      have hs := h1.hs
      exact ((((h1.hb.alloc (by omega) _).alloc (by simp; omega) _).alloc (by simp; omega) _).setCell (by simp; omega) _).setCell (by simp; omega) _
    have hT := (((h1.ht.alloc (.cells #[] 3)).alloc (.cells #[.slice (some ⟨wc.heap.size, 0, none⟩) 0 0] 24)).alloc (.cells #[.slice a4 p0.length c4] 24))
    have hT2 := hT.put 0 (.slice (some ⟨wc.heap.size + 1, 0, none⟩) 1 1)
    have f0 := hT.free 0
    have f2 := hT2.free 1
    have k0 := hT.at (i := 0) rfl
    have k1 := hT.at (i := 1) rfl
    have k2 := hT2.at (i := 1) rfl
    clear hT hT2
    have HE := Lib.hid he
    have HBF := Lib.hid hbF
    have HP0 := Lib.hid hp0e
    clear he hbF hp0e ho h1
    go_upto_region 5 with (fail)
    go_loopw [5] (fun ix wr => ∃ (i : Nat) (S : Nat → Prop) (vW vP : Value), ix = .int .i64 (i : Nat) ∧ i ≤ 125 ∧ i ≤ (rfN K n i).W.length ∧ ElI K n w.heap.size (w.heap.size + 1) (w.heap.size + 1 + 1) S wr vW vP (.slice none 0 0) (rfN K n i).W (rfN K n i).P [] ∧ Below w.heap.size w wr) (fun ix _ => 130 - (intOf ix).toNat)
    case atStart => exact ⟨0, S, _, _, rfl, by omega, by omega, by rw [show rfN K n 0 = ⟨[[]], [afterN (movesN K n 0) (movesN K n 0)]⟩ from rfl, HP0.out]; exact HE.out, HBF.out⟩
    case round =>
      clear HE HBF HP0
      obtain ⟨i, S, vW, vP, rfl, hi5, hiW, he, hb⟩ := hrel
      have hle := rfN_le hv (show i ≤ 130 by omega)
      obtain ⟨aW, cW, rfl⟩ := he.hw.form
      have cT := he.ht.at (i := 0) rfl
      by_cases hlt : i < (rfN K n i).W.length
      · have hlti : (i : Int) < ((rfN K n i).W.length : Int) := by omega
        have cg0 := he.hg.at (i := 0) rfl
        have cg1 := he.hg.at (i := 1) rfl
        have HE := Lib.hid he
        have HB := Lib.hid hb
        clear he hb
        go_upto_region 8 with (go_at_call 30; refine (RM.out _).mono ?_; rintro e wm ⟨rfl, hbm⟩)
        have HEM := Lib.hid (HE.out.below hbm)
        have HBM := Lib.hid (HB.out.trans (hbm.mono HB.out.size))
        have HLT := Lib.hid hlt
        have HI5 := Lib.hid hle
        clear hbm cT cg0 cg1 hle hiW hlti hlt
        go_loopw [31] (fun sx wr => ∃ (s : Nat) (S : Nat → Prop) (vW vP : Value), sx = .int .i64 (s : Nat) ∧ s ≤ mirs K n ∧ ElI K n w.heap.size (w.heap.size + 1) (w.heap.size + 1 + 1) S wr vW vP (.slice none 0 0) (rfR K n i (rfN K n i) s).W (rfR K n i (rfN K n i) s).P [] ∧ Below w.heap.size w wr) (fun sx _ => mirs K n - (intOf sx).toNat)
        case atStart => exact ⟨0, S, _, _, rfl, Nat.zero_le _, HEM.out, HBM.out⟩
        case round =>
          clear HEM HBM HE HB
          rename_i S0 aW0 cW0 wr0 wm0 wr
          obtain ⟨s, S, vW, vP, rfl, hs, he, hb⟩ := hrel
          by_cases hsm : s < mirs K n
          · skip
            have hsmi : (s : Int) < ((mirs K n : Nat) : Int) := by omega
            have hm4i : ((mirs K n : Nat) : Int) ≤ 4 := by have := mirs_le hv; omega
            have hps := pt_of hv hsm
            have hin := rfR_in (K := K) (n := n) (i := i) (s := s) (by have := HLT.out; have := HI5.out.1; omega) HLT.out hs
            have hlen := rfR_len K n i (rfN K n i) (rfN_len K n i) s
            have hmono := (rfR_le K n i (rfN K n i) s).1
            have HST := Lib.hid (show rfR K n i (rfN K n i) (s + 1) = rfS K n i s (rfR K n i (rfN K n i) s) from rfl)
            obtain ⟨t, ht⟩ : ∃ t, rfR K n i (rfN K n i) s = t := ⟨_, rfl⟩
            rw [ht] at hin hlen hmono HST he
            have hiP : i < t.P.length := by have := HLT.out; omega
            have hpm : t.P.getD i [] ∈ (rfN K n 130).P := by
              rw [getDL hiP]
              exact hin.2.subset (List.getElem_mem hiP)
            have hpt := pt_len hv hpm
            have hdd := getDL hiP
            obtain ⟨gP, cP, ru, eP, hgP, hgl, hcru, hfz⟩ := he.hp.at i hiP
            subst eP
            have hrow := hfz.ints
            rw [← hdd] at hrow
            obtain ⟨p, hpe⟩ : ∃ p, t.P.getD i [] = p := ⟨_, rfl⟩
            rw [hpe] at hpt hrow
            obtain ⟨q, hq⟩ : ∃ q, movesN K n s = q := ⟨_, rfl⟩
            have MS := Lib.hid (fun w' => moves_any K n s w' (moves_ok hv hsm))
            unfold MvIs at MS
            rw [hq] at MS hps
            have AS := Lib.hid (fun (w' : World) (va vs : Value) (h1 : Ints w' va (toI p)) (h2 : Ints w' vs (toI q)) => after_any va vs p q w' h1 h2 (fun x hx => by have := hps.2.2 x hx; omega) (by omega))
            have hql : (toI q).length ≤ 17592186044416 := by rw [toI_length]; omega
            obtain ⟨ra, rc, rfl, hrow1⟩ := hrow
            have HROW := Lib.hid (show Ints wr (.slice ra (toI p).length rc) (toI p) from ⟨ra, rc, rfl, hrow1⟩)
            rw [toI_length] at HROW hcru
            have cT1 := he.ht.at (i := 1) rfl
            have cg0 := he.hg.at (i := 0) rfl
            have cg1 := he.hg.at (i := 1) rfl
            have hiPi : (i : Int) < (t.P.length : Int) := by omega
            have HE := Lib.hid he
            have HB := Lib.hid hb
            have HHL := Lib.hid he.hg.lt
            have HTL := Lib.hid he.ht.lt
            have HGL := Lib.hid hgl
            have HS1 := Lib.hid (fun (h : afterN p q ∈ t.P) => show rfR K n i (rfN K n i) (s + 1) = t by rw [HST.out]; unfold rfS; dsimp only; rw [hpe, hq, if_pos h])
            have HS2 := Lib.hid (fun (h : ¬ afterN p q ∈ t.P) => show rfR K n i (rfN K n i) (s + 1) = ⟨t.W ++ [t.W.getD i [] ++ [s]], t.P ++ [afterN p q]⟩ by rw [HST.out]; unfold rfS; dsimp only; rw [hpe, hq, if_neg h])
            have HQL := Lib.hid (show (afterN p q).length ≤ 17592186044416 by unfold afterN; rw [List.length_map]; omega)
            have HQ2 := Lib.hid (show (afterN p q).length ≤ 1000 by unfold afterN; rw [List.length_map]; omega)
            have HTP := Lib.hid (show t.P.length ≤ 200 by have := hin.2.length_le; have := (rfN_le hv (Nat.le_refl 130)).2; omega)
            have HSM := Lib.hid (show s + 1 ≤ mirs K n by omega)
            have HWS := Lib.hid (fun (l : List Nat) (hl : l ∈ t.W) => wd_len hv (hin.1.subset hl))
            have HTW := Lib.hid (show t.W.length ≤ 200 by have := hin.2.length_le; have := (rfN_le hv (Nat.le_refl 130)).2; omega)
            have HIW := Lib.hid (show i < t.W.length by omega)
            clear he hb hrow1 hfz hps hin hlen hmono ht hpm hpt hdd hpe hq hiP hs hsm hgP hgl
            go_upto_region 10 with (fail)
            go_cut [7] from 34 to 42 (fun v wq => OwnI 3 wr.heap.size wq v (toI (afterN p q)) ∧ Below wr.heap.size wr wq)
            case first =>
              go_region_with (first
                | (go_at_call 62; refine (AS.out _ _ _ (HROW.out.below hbA) (hoA.ints hql)).mono ?_; rintro e wC ⟨vC, rfl, hoC, hbC⟩)
                | (go_at_call 63; refine (MS.out _).mono ?_; rintro e wA ⟨vA, rfl, hoA, hbA'⟩; have hbA : Below wr.heap.size wr wA := (by first | exact hbA' | exact ((Below.refl _ _).drew).trans hbA'); have a1 := (hbA.cell (p := ⟨w.heap.size + 1 + 1, 1, none⟩) HTL.out).trans cT1; have a2 := (hbA.cell (p := ⟨gP, i, none⟩) HGL.out).trans hcru))
              all_goals (go_wp2_with fail; go_meet)
              all_goals exact ⟨hoC.mono hbA.size, hbA.trans (hbC.mono hbA.size)⟩
            case rest =>
              obtain ⟨ho, hbq⟩ := hcut
              obtain ⟨Q, hQ⟩ : ∃ Q, afterN p q = Q := ⟨_, rfl⟩
              rw [hQ] at ho HS1 HS2 HQL HQ2
              have heq := HE.out.below hbq
              obtain ⟨aq, cq, rfl⟩ := ho.form
              rw [toI_length] at *
              have FD := Lib.hid (find_any vW (.slice (some ⟨gP, 0, none⟩) t.P.length cP) (.slice none 0 0) _ t.P Q _ heq.hp (ho.ints (by rw [toI_length]; exact HQL.out)) HTP.out)
              have k0 := heq.ht.at (i := 0) rfl
              have k1 := heq.ht.at (i := 1) rfl
              have k2 := heq.ht.at (i := 2) rfl
              have HEQ := Lib.hid heq
              have HBQ := Lib.hid (HB.out.trans (hbq.mono HB.out.size))
              have HO := Lib.hid ho
              clear heq hbq ho hQ cT1 cg0 cg1 hcru
              by_cases hm : Q ∈ t.P
              · have FE := Lib.hid (show findI t.P Q = ((t.P.idxOf Q : Nat) : Int) by unfold findI; rw [if_pos hm])
                have HN := Lib.hid (HS1.out hm)
                clear hm
                go_wp2_with (go_at_call 64; refine FD.out.mono ?_; rintro e w2 ⟨rfl, hb2⟩; rw [FE.out])
                go_roundw
                case rel => exact ⟨s + 1, S, vW, _, by go_num, HSM.out, by rw [HN.out]; exact HEQ.out.below hb2, HBQ.out.trans (hb2.mono HBQ.out.size)⟩
                case measure => have := HSM.out; simp [intOf]; omega
              · have FE := Lib.hid (show findI t.P Q = -1 by unfold findI; rw [if_neg hm])
                have HN := Lib.hid (HS2.out hm)
                clear hm
                go_upto_region 12 with (go_at_call 64; refine FD.out.mono ?_; rintro e w2 ⟨rfl, hb2⟩; rw [FE.out])
                have he2 := HEQ.out.below hb2
                have HB2 := Lib.hid (HBQ.out.trans (hb2.mono HBQ.out.size))
                obtain ⟨gW, cW, rw, eW, hgW, hgWl, hcrw, hfzw⟩ := he2.hw.at i HIW.out
                subst eW
                obtain ⟨wd, hwd⟩ : ∃ wd, t.W[i]'HIW.out = wd := ⟨_, rfl⟩
                rw [hwd] at hfzw
                obtain ⟨xa, xc, rfl, hx1, hx2, hx3⟩ := hfzw
                rw [toI_length] at hcrw hx1 hx2
                have HWD := Lib.hid (show wd.length ≤ 12 from by rw [← hwd]; exact HWS.out _ (List.getElem_mem HIW.out))
                have hxc : (wd.length : Int) ≤ (xc : Int) := by omega
                have hiWi : (i : Int) < (t.W.length : Int) := by have := HIW.out; omega
                have hxl : wd.length ≤ 1000000 := hx1
                have HQ2W := Lib.hid (HO.out.below hb2)
                have hwl12 := HWD.out
                have hWl200 := HTW.out
                have HWQ := Lib.hid hwd
                have hgWH := hgW
                have hB0H := HB2.out.size
                have hfw : Fz S w2.drew (.slice xa wd.length xc) (toI wd) := by
                  have h9 : Fz S w2 (.slice xa (toI wd).length xc) (toI wd) := ⟨xa, xc, rfl, by rw [toI_length]; exact hx1, by rw [toI_length]; exact hx2, hx3⟩
                  rw [toI_length] at h9
                  exact h9.kept (Sm.of_below (Below.refl _ w2).drew)
                have hbTg : w.heap.size + 1 + 1 ≠ gW := ty_ne (by rw [he2.ht.ty, he2.hw.ty (k := gW) rfl]; decide)
                replace he2 := he2.drew
                have HCR := Lib.hid hcrw
                clear hb2 hx3 hgW hwd hx2 hcrw
                refine wp_region_inv (by kernel_rfl) [47, 48, 49, 50, 51, 52, 53, 54, 55, 56, 57, 58, 59, 60, 61, 62, 63, 64, 65, 66, 67, 68, 69, 70, 71, 72] (by kernel_rfl) (by kernel_rfl) (by kernel_rfl) 26 24 (by decide) rfl (by kernel_rfl) (Inv5 gW w2.drew) (Inv5.start gW w2.drew) (El12 w.heap.size w2.heap.size (w.heap.size + 1 + 1) s i cW xc gW S xa wd t.W) ?_ ?_ ?_
                · intro f j y y' wx hj h hv
                  match j, hj, h, hv with
                  | 0, _, h, hv =>
                    have e47 : y 47 = y' 47 := h 0 47 (.inr rfl) (by kernel_rfl)
                    have hv' : El12 w.heap.size w2.heap.size (w.heap.size + 1 + 1) s i cW xc gW S xa wd t.W f 0 y wx := hv
                    simp only [El12] at hv' ⊢
                    rw [← e47]
                    exact hv'
                  | 1, _, h, hv =>
                    have e48 : y 48 = y' 48 := h 1 48 (.inr rfl) (by kernel_rfl)
                    have hv' : El12 w.heap.size w2.heap.size (w.heap.size + 1 + 1) s i cW xc gW S xa wd t.W f 1 y wx := hv
                    simp only [El12] at hv' ⊢
                    rw [← e48]
                    exact hv'
                  | 2, _, h, hv =>
                    have e49 : y 49 = y' 49 := h 2 49 (.inr rfl) (by kernel_rfl)
                    have hv' : El12 w.heap.size w2.heap.size (w.heap.size + 1 + 1) s i cW xc gW S xa wd t.W f 2 y wx := hv
                    simp only [El12] at hv' ⊢
                    rw [← e49]
                    exact hv'
                  | 3, _, h, hv =>
                    have e50 : y 50 = y' 50 := h 3 50 (.inr rfl) (by kernel_rfl)
                    have hv' : El12 w.heap.size w2.heap.size (w.heap.size + 1 + 1) s i cW xc gW S xa wd t.W f 3 y wx := hv
                    simp only [El12] at hv' ⊢
                    rw [← e50]
                    exact hv'
                  | 4, _, h, hv =>
                    have e51 : y 51 = y' 51 := h 4 51 (.inr rfl) (by kernel_rfl)
                    have hv' : El12 w.heap.size w2.heap.size (w.heap.size + 1 + 1) s i cW xc gW S xa wd t.W f 4 y wx := hv
                    simp only [El12] at hv' ⊢
                    rw [← e51]
                    exact hv'
                  | 5, _, h, hv =>
                    have e52 : y 52 = y' 52 := h 5 52 (.inr rfl) (by kernel_rfl)
                    have hv' : El12 w.heap.size w2.heap.size (w.heap.size + 1 + 1) s i cW xc gW S xa wd t.W f 5 y wx := hv
                    simp only [El12] at hv' ⊢
                    rw [← e52]
                    exact hv'
                  | 6, _, h, hv =>
                    have e53 : y 53 = y' 53 := h 6 53 (.inr rfl) (by kernel_rfl)
                    have hv' : El12 w.heap.size w2.heap.size (w.heap.size + 1 + 1) s i cW xc gW S xa wd t.W f 6 y wx := hv
                    simp only [El12] at hv' ⊢
                    rw [← e53]
                    exact hv'
                  | 7, _, h, hv =>
                    have e54 : y 54 = y' 54 := h 7 54 (.inr rfl) (by kernel_rfl)
                    have hv' : El12 w.heap.size w2.heap.size (w.heap.size + 1 + 1) s i cW xc gW S xa wd t.W f 7 y wx := hv
                    simp only [El12] at hv' ⊢
                    rw [← e54]
                    exact hv'
                  | 8, _, h, hv =>
                    have e55 : y 55 = y' 55 := h 8 55 (.inr rfl) (by kernel_rfl)
                    have hv' : El12 w.heap.size w2.heap.size (w.heap.size + 1 + 1) s i cW xc gW S xa wd t.W f 8 y wx := hv
                    simp only [El12] at hv' ⊢
                    rw [← e55]
                    exact hv'
                  | 9, _, h, hv =>
                    have e56 : y 56 = y' 56 := h 9 56 (.inr rfl) (by kernel_rfl)
                    have hv' : El12 w.heap.size w2.heap.size (w.heap.size + 1 + 1) s i cW xc gW S xa wd t.W f 9 y wx := hv
                    simp only [El12] at hv' ⊢
                    rw [← e56]
                    exact hv'
                  | 10, _, h, hv =>
                    have e57 : y 57 = y' 57 := h 10 57 (.inr rfl) (by kernel_rfl)
                    have hv' : El12 w.heap.size w2.heap.size (w.heap.size + 1 + 1) s i cW xc gW S xa wd t.W f 10 y wx := hv
                    simp only [El12] at hv' ⊢
                    rw [← e57]
                    exact hv'
                  | 11, _, h, hv =>
                    have e58 : y 58 = y' 58 := h 11 58 (.inr rfl) (by kernel_rfl)
                    have hv' : El12 w.heap.size w2.heap.size (w.heap.size + 1 + 1) s i cW xc gW S xa wd t.W f 11 y wx := hv
                    simp only [El12] at hv' ⊢
                    rw [← e58]
                    exact hv'
                  | 12, _, h, hv =>
                    have e59 : y 59 = y' 59 := h 12 59 (.inr rfl) (by kernel_rfl)
                    have hv' : El12 w.heap.size w2.heap.size (w.heap.size + 1 + 1) s i cW xc gW S xa wd t.W f 12 y wx := hv
                    simp only [El12] at hv' ⊢
                    rw [← e59]
                    exact hv'
                  | 13, _, h, hv =>
                    have e60 : y 60 = y' 60 := h 13 60 (.inr rfl) (by kernel_rfl)
                    have hv' : El12 w.heap.size w2.heap.size (w.heap.size + 1 + 1) s i cW xc gW S xa wd t.W f 13 y wx := hv
                    simp only [El12] at hv' ⊢
                    rw [← e60]
                    exact hv'
                  | 14, _, h, hv =>
                    have e61 : y 61 = y' 61 := h 14 61 (.inr rfl) (by kernel_rfl)
                    have hv' : El12 w.heap.size w2.heap.size (w.heap.size + 1 + 1) s i cW xc gW S xa wd t.W f 14 y wx := hv
                    simp only [El12] at hv' ⊢
                    rw [← e61]
                    exact hv'
                  | 15, _, h, hv =>
                    have e62 : y 62 = y' 62 := h 15 62 (.inr rfl) (by kernel_rfl)
                    have hv' : El12 w.heap.size w2.heap.size (w.heap.size + 1 + 1) s i cW xc gW S xa wd t.W f 15 y wx := hv
                    simp only [El12] at hv' ⊢
                    rw [← e62]
                    exact hv'
                  | 16, _, h, hv =>
                    have e63 : y 63 = y' 63 := h 16 63 (.inr rfl) (by kernel_rfl)
                    have hv' : El12 w.heap.size w2.heap.size (w.heap.size + 1 + 1) s i cW xc gW S xa wd t.W f 16 y wx := hv
                    simp only [El12] at hv' ⊢
                    rw [← e63]
                    exact hv'
                  | 17, _, h, hv =>
                    have e64 : y 64 = y' 64 := h 17 64 (.inr rfl) (by kernel_rfl)
                    have hv' : El12 w.heap.size w2.heap.size (w.heap.size + 1 + 1) s i cW xc gW S xa wd t.W f 17 y wx := hv
                    simp only [El12] at hv' ⊢
                    rw [← e64]
                    exact hv'
                  | 18, _, h, hv =>
                    have e65 : y 65 = y' 65 := h 18 65 (.inr rfl) (by kernel_rfl)
                    have hv' : El12 w.heap.size w2.heap.size (w.heap.size + 1 + 1) s i cW xc gW S xa wd t.W f 18 y wx := hv
                    simp only [El12] at hv' ⊢
                    rw [← e65]
                    exact hv'
                  | 19, _, h, hv =>
                    have e66 : y 66 = y' 66 := h 19 66 (.inr rfl) (by kernel_rfl)
                    have hv' : El12 w.heap.size w2.heap.size (w.heap.size + 1 + 1) s i cW xc gW S xa wd t.W f 19 y wx := hv
                    simp only [El12] at hv' ⊢
                    rw [← e66]
                    exact hv'
                  | 20, _, h, hv =>
                    have e67 : y 67 = y' 67 := h 20 67 (.inr rfl) (by kernel_rfl)
                    have hv' : El12 w.heap.size w2.heap.size (w.heap.size + 1 + 1) s i cW xc gW S xa wd t.W f 20 y wx := hv
                    simp only [El12] at hv' ⊢
                    rw [← e67]
                    exact hv'
                  | 21, _, h, hv =>
                    have e68 : y 68 = y' 68 := h 21 68 (.inr rfl) (by kernel_rfl)
                    have hv' : El12 w.heap.size w2.heap.size (w.heap.size + 1 + 1) s i cW xc gW S xa wd t.W f 21 y wx := hv
                    simp only [El12] at hv' ⊢
                    rw [← e68]
                    exact hv'
                  | 22, _, h, hv =>
                    have e69 : y 69 = y' 69 := h 22 69 (.inr rfl) (by kernel_rfl)
                    have hv' : El12 w.heap.size w2.heap.size (w.heap.size + 1 + 1) s i cW xc gW S xa wd t.W f 22 y wx := hv
                    simp only [El12] at hv' ⊢
                    rw [← e69]
                    exact hv'
                  | 23, _, h, hv =>
                    have e69 : y 69 = y' 69 := h 22 69 (.inl (by kernel_rfl)) (by kernel_rfl)
                    have e70 : y 70 = y' 70 := h 23 70 (.inr rfl) (by kernel_rfl)
                    have hv' : El12 w.heap.size w2.heap.size (w.heap.size + 1 + 1) s i cW xc gW S xa wd t.W f 23 y wx := hv
                    simp only [El12] at hv' ⊢
                    rw [← e69, ← e70]
                    exact hv'
                  | 24, _, h, hv =>
                    have e69 : y 69 = y' 69 := h 22 69 (.inl (by kernel_rfl)) (by kernel_rfl)
                    have e71 : y 71 = y' 71 := h 24 71 (.inr rfl) (by kernel_rfl)
                    have hv' : El12 w.heap.size w2.heap.size (w.heap.size + 1 + 1) s i cW xc gW S xa wd t.W f 24 y wx := hv
                    simp only [El12] at hv' ⊢
                    rw [← e69, ← e71]
                    exact hv'
                  | 25, _, h, hv =>
                    have e72 : y 72 = y' 72 := h 25 72 (.inr rfl) (by kernel_rfl)
                    have hv' : El12 w.heap.size w2.heap.size (w.heap.size + 1 + 1) s i cW xc gW S xa wd t.W f 25 y wx := hv
                    simp only [El12] at hv' ⊢
                    rw [← e72]
                    exact hv'
                  | j + 26, hj, _, _ => exact absurd hj (by omega)
                · intro io o him ho f y wx hx hf hd hini
                  match io, him, ho, hf with
                  | 0, _, ho, hf =>
                    obtain rfl := Option.some.inj ho
                    obtain rfl : f = false := hf (.inl (by kernel_rfl))
                    refine rstep_value rfl (v := .pointer (some ⟨(w.heap.size + 1 + 1), 0, none⟩)) (w' := wx) ?_ ⟨by simpa using hx, rfl, by intro j hj _ _ h; simpa using h⟩
                    · simp only [hole, List.foldl_cons, List.foldl_nil, List.setIfInBounds_toArray, List.set_cons_zero, List.set_cons_succ]
                      go_simp
                  | 1, _, ho, hf =>
                    obtain rfl := Option.some.inj ho
                    obtain rfl : f = false := hf (.inl (by kernel_rfl))
                    have e47 : y 47 = .pointer (some ⟨(w.heap.size + 1 + 1), 0, none⟩) := hd 0 (by kernel_rfl) (by decide)
                    have c0 := (he2.ht.sm hx.1 hbTg).at (i := 0) rfl
                    refine rstep_value rfl (v := .slice (some ⟨gW, 0, none⟩) t.W.length cW) (w' := wx) ?_ ⟨by simpa using hx, rfl, by intro j hj _ _ h; simpa using h⟩
                    · simp only [hole, List.foldl_cons, List.foldl_nil, List.setIfInBounds_toArray, List.set_cons_zero, List.set_cons_succ]
                      go_simp
                  | 2, _, ho, hf =>
                    obtain rfl := Option.some.inj ho
                    obtain rfl : f = false := hf (.inl (by kernel_rfl))
                    refine rstep_value rfl (v := .pointer (some ⟨(w.heap.size + 1 + 1), 0, none⟩)) (w' := wx) ?_ ⟨by simpa using hx, rfl, by intro j hj _ _ h; simpa using h⟩
                    · simp only [hole, List.foldl_cons, List.foldl_nil, List.setIfInBounds_toArray, List.set_cons_zero, List.set_cons_succ]
                      go_simp
                  | 3, _, ho, hf =>
                    obtain rfl := Option.some.inj ho
                    obtain rfl : f = false := hf (.inl (by kernel_rfl))
                    have e49 : y 49 = .pointer (some ⟨(w.heap.size + 1 + 1), 0, none⟩) := hd 2 (by kernel_rfl) (by decide)
                    have c0 := (he2.ht.sm hx.1 hbTg).at (i := 0) rfl
                    refine rstep_value rfl (v := .slice (some ⟨gW, 0, none⟩) t.W.length cW) (w' := wx) ?_ ⟨by simpa using hx, rfl, by intro j hj _ _ h; simpa using h⟩
                    · simp only [hole, List.foldl_cons, List.foldl_nil, List.setIfInBounds_toArray, List.set_cons_zero, List.set_cons_succ]
                      go_simp
                  | 4, _, ho, hf =>
                    obtain rfl := Option.some.inj ho
                    obtain rfl : f = false := hf (.inl (by kernel_rfl))
                    refine rstep_value rfl (v := .int .i64 (i : Nat)) (w' := wx) ?_ ⟨by simpa using hx, rfl, by intro j hj _ _ h; simpa using h⟩
                    · simp only [hole, List.foldl_cons, List.foldl_nil, List.setIfInBounds_toArray, List.set_cons_zero, List.set_cons_succ]
                      go_simp
                  | 5, _, ho, hf =>
                    obtain rfl := Option.some.inj ho
                    obtain rfl : f = false := hf (.inl (by kernel_rfl))
                    have e50 : y 50 = .slice (some ⟨gW, 0, none⟩) t.W.length cW := hd 3 (by kernel_rfl) (by decide)
                    have e51 : y 51 = .int .i64 (i : Nat) := hd 4 (by kernel_rfl) (by decide)
                    refine rstep_value rfl (v := .pointer (some ⟨gW, i, none⟩)) (w' := wx) ?_ ⟨by simpa using hx, rfl, by intro j hj _ _ h; simpa using h⟩
                    · simp only [hole, List.foldl_cons, List.foldl_nil, List.setIfInBounds_toArray, List.set_cons_zero, List.set_cons_succ]
                      go_simp
                  | 6, _, ho, hf =>
                    obtain rfl := Option.some.inj ho
                    obtain rfl : f = false := hf (.inl (by kernel_rfl))
                    have e52 : y 52 = .pointer (some ⟨gW, i, none⟩) := hd 5 (by kernel_rfl) (by decide)
                    have c1 := ((hx.2 rfl).cell (p := ⟨gW, i, none⟩) hgWl).trans HCR.out
                    refine rstep_value rfl (v := .slice xa wd.length xc) (w' := wx) ?_ ⟨by simpa using hx, rfl, by intro j hj _ _ h; simpa using h⟩
                    · simp only [hole, List.foldl_cons, List.foldl_nil, List.setIfInBounds_toArray, List.set_cons_zero, List.set_cons_succ]
                      go_simp
                  | 7, _, ho, hf =>
                    obtain rfl := Option.some.inj ho
                    obtain rfl : f = false := hf (.inl (by kernel_rfl))
                    refine rstep_value rfl (v := .pointer (some ⟨(w.heap.size + 1 + 1), 0, none⟩)) (w' := wx) ?_ ⟨by simpa using hx, rfl, by intro j hj _ _ h; simpa using h⟩
                    · simp only [hole, List.foldl_cons, List.foldl_nil, List.setIfInBounds_toArray, List.set_cons_zero, List.set_cons_succ]
                      go_simp
                  | 8, _, ho, hf =>
                    obtain rfl := Option.some.inj ho
                    obtain rfl : f = false := hf (.inl (by kernel_rfl))
                    have e54 : y 54 = .pointer (some ⟨(w.heap.size + 1 + 1), 0, none⟩) := hd 7 (by kernel_rfl) (by decide)
                    have c0 := (he2.ht.sm hx.1 hbTg).at (i := 0) rfl
                    refine rstep_value rfl (v := .slice (some ⟨gW, 0, none⟩) t.W.length cW) (w' := wx) ?_ ⟨by simpa using hx, rfl, by intro j hj _ _ h; simpa using h⟩
                    · simp only [hole, List.foldl_cons, List.foldl_nil, List.setIfInBounds_toArray, List.set_cons_zero, List.set_cons_succ]
                      go_simp
                  | 9, _, ho, hf =>
                    obtain rfl := Option.some.inj ho
                    obtain rfl : f = false := hf (.inl (by kernel_rfl))
                    refine rstep_value rfl (v := .int .i64 (i : Nat)) (w' := wx) ?_ ⟨by simpa using hx, rfl, by intro j hj _ _ h; simpa using h⟩
                    · simp only [hole, List.foldl_cons, List.foldl_nil, List.setIfInBounds_toArray, List.set_cons_zero, List.set_cons_succ]
                      go_simp
                  | 10, _, ho, hf =>
                    obtain rfl := Option.some.inj ho
                    obtain rfl : f = false := hf (.inl (by kernel_rfl))
                    have e55 : y 55 = .slice (some ⟨gW, 0, none⟩) t.W.length cW := hd 8 (by kernel_rfl) (by decide)
                    have e56 : y 56 = .int .i64 (i : Nat) := hd 9 (by kernel_rfl) (by decide)
                    refine rstep_value rfl (v := .pointer (some ⟨gW, i, none⟩)) (w' := wx) ?_ ⟨by simpa using hx, rfl, by intro j hj _ _ h; simpa using h⟩
                    · simp only [hole, List.foldl_cons, List.foldl_nil, List.setIfInBounds_toArray, List.set_cons_zero, List.set_cons_succ]
                      go_simp
                  | 11, _, ho, hf =>
                    obtain rfl := Option.some.inj ho
                    obtain rfl : f = false := hf (.inl (by kernel_rfl))
                    have e57 : y 57 = .pointer (some ⟨gW, i, none⟩) := hd 10 (by kernel_rfl) (by decide)
                    have c1 := ((hx.2 rfl).cell (p := ⟨gW, i, none⟩) hgWl).trans HCR.out
                    refine rstep_value rfl (v := .slice xa wd.length xc) (w' := wx) ?_ ⟨by simpa using hx, rfl, by intro j hj _ _ h; simpa using h⟩
                    · simp only [hole, List.foldl_cons, List.foldl_nil, List.setIfInBounds_toArray, List.set_cons_zero, List.set_cons_succ]
                      go_simp
                  | 12, _, ho, hf =>
                    obtain rfl := Option.some.inj ho
                    obtain rfl : f = false := hf (.inl (by kernel_rfl))
                    have e58 : y 58 = .slice xa wd.length xc := hd 11 (by kernel_rfl) (by decide)
                    refine rstep_value rfl (v := .int .i64 (wd.length : Nat)) (w' := wx) ?_ ⟨by simpa using hx, rfl, by intro j hj _ _ h; simpa using h⟩
                    · simp only [hole, List.foldl_cons, List.foldl_nil, List.setIfInBounds_toArray, List.set_cons_zero, List.set_cons_succ]
                      go_simp
                  | 13, _, ho, hf =>
                    obtain rfl := Option.some.inj ho
                    obtain rfl : f = false := hf (.inl (by kernel_rfl))
                    refine rstep_value rfl (v := .pointer (some ⟨(w.heap.size + 1 + 1), 0, none⟩)) (w' := wx) ?_ ⟨by simpa using hx, rfl, by intro j hj _ _ h; simpa using h⟩
                    · simp only [hole, List.foldl_cons, List.foldl_nil, List.setIfInBounds_toArray, List.set_cons_zero, List.set_cons_succ]
                      go_simp
                  | 14, _, ho, hf =>
                    obtain rfl := Option.some.inj ho
                    obtain rfl : f = false := hf (.inl (by kernel_rfl))
                    have e60 : y 60 = .pointer (some ⟨(w.heap.size + 1 + 1), 0, none⟩) := hd 13 (by kernel_rfl) (by decide)
                    have c0 := (he2.ht.sm hx.1 hbTg).at (i := 0) rfl
                    refine rstep_value rfl (v := .slice (some ⟨gW, 0, none⟩) t.W.length cW) (w' := wx) ?_ ⟨by simpa using hx, rfl, by intro j hj _ _ h; simpa using h⟩
                    · simp only [hole, List.foldl_cons, List.foldl_nil, List.setIfInBounds_toArray, List.set_cons_zero, List.set_cons_succ]
                      go_simp
                  | 15, _, ho, hf =>
                    obtain rfl := Option.some.inj ho
                    obtain rfl : f = false := hf (.inl (by kernel_rfl))
                    refine rstep_value rfl (v := .int .i64 (i : Nat)) (w' := wx) ?_ ⟨by simpa using hx, rfl, by intro j hj _ _ h; simpa using h⟩
                    · simp only [hole, List.foldl_cons, List.foldl_nil, List.setIfInBounds_toArray, List.set_cons_zero, List.set_cons_succ]
                      go_simp
                  | 16, _, ho, hf =>
                    obtain rfl := Option.some.inj ho
                    obtain rfl : f = false := hf (.inl (by kernel_rfl))
                    have e61 : y 61 = .slice (some ⟨gW, 0, none⟩) t.W.length cW := hd 14 (by kernel_rfl) (by decide)
                    have e62 : y 62 = .int .i64 (i : Nat) := hd 15 (by kernel_rfl) (by decide)
                    refine rstep_value rfl (v := .pointer (some ⟨gW, i, none⟩)) (w' := wx) ?_ ⟨by simpa using hx, rfl, by intro j hj _ _ h; simpa using h⟩
                    · simp only [hole, List.foldl_cons, List.foldl_nil, List.setIfInBounds_toArray, List.set_cons_zero, List.set_cons_succ]
                      go_simp
                  | 17, _, ho, hf =>
                    obtain rfl := Option.some.inj ho
                    obtain rfl : f = false := hf (.inl (by kernel_rfl))
                    have e63 : y 63 = .pointer (some ⟨gW, i, none⟩) := hd 16 (by kernel_rfl) (by decide)
                    have c1 := ((hx.2 rfl).cell (p := ⟨gW, i, none⟩) hgWl).trans HCR.out
                    refine rstep_value rfl (v := .slice xa wd.length xc) (w' := wx) ?_ ⟨by simpa using hx, rfl, by intro j hj _ _ h; simpa using h⟩
                    · simp only [hole, List.foldl_cons, List.foldl_nil, List.setIfInBounds_toArray, List.set_cons_zero, List.set_cons_succ]
                      go_simp
                  | 18, _, ho, hf =>
                    obtain rfl := Option.some.inj ho
                    obtain rfl : f = false := hf (.inl (by kernel_rfl))
                    have e64 : y 64 = .slice xa wd.length xc := hd 17 (by kernel_rfl) (by decide)
                    refine rstep_value rfl (v := .int .i64 (wd.length : Nat)) (w' := wx) ?_ ⟨by simpa using hx, rfl, by intro j hj _ _ h; simpa using h⟩
                    · simp only [hole, List.foldl_cons, List.foldl_nil, List.setIfInBounds_toArray, List.set_cons_zero, List.set_cons_succ]
                      go_simp
                  | 19, _, ho, hf =>
                    obtain rfl := Option.some.inj ho
                    obtain rfl : f = false := hf (.inl (by kernel_rfl))
                    have e53 : y 53 = .slice xa wd.length xc := hd 6 (by kernel_rfl) (by decide)
                    have e59 : y 59 = .int .i64 (wd.length : Nat) := hd 12 (by kernel_rfl) (by decide)
                    have e65 : y 65 = .int .i64 (wd.length : Nat) := hd 18 (by kernel_rfl) (by decide)
                    refine rstep_value rfl (v := .slice xa wd.length wd.length) (w' := wx) ?_ ⟨by simpa using hx, rfl, by intro j hj _ _ h; simpa using h⟩
                    · simp only [hole, List.foldl_cons, List.foldl_nil, List.setIfInBounds_toArray, List.set_cons_zero, List.set_cons_succ]
                      cases xa <;> go_simp
                  | 20, _, ho, hf =>
                    obtain rfl := Option.some.inj ho
                    obtain rfl : f = false := hf (.inl (by kernel_rfl))
                    refine rstep_value rfl (v := .int .i64 (s : Nat)) (w' := wx) ?_ ⟨by simpa using hx, rfl, by intro j hj _ _ h; simpa using h⟩
                    · simp only [hole, List.foldl_cons, List.foldl_nil, List.setIfInBounds_toArray, List.set_cons_zero, List.set_cons_succ]
                      go_simp
                  | 21, _, ho, hf =>
                    obtain rfl := Option.some.inj ho
                    obtain rfl : f = false := hf (.inl (by kernel_rfl))
                    have e67 : y 67 = .int .i64 (s : Nat) := hd 20 (by kernel_rfl) (by decide)
                    have hz : w2.heap.size ≤ wx.heap.size := hx.1.size
                    have hbl := (Below.refl wx.heap.size wx).alloc (Nat.le_refl _) (.cells #[.int .i64 (s : Nat)] 3)
                    refine rstep_value rfl (v := .slice (some ⟨wx.heap.size, 0, none⟩) 1 1) (w' := wx.alloc (.cells #[.int .i64 (s : Nat)] 3)) ?_ ⟨hx.grow hbl, ⟨_, rfl, hz, Held.new _ _ [_]⟩, (fun j _ _ _ h => El12_keep w.heap.size w2.heap.size (w.heap.size + 1 + 1) s i cW xc gW S xa wd t.W _ j y _ _ (hbl) (by simpa using h))⟩
                    · simp only [hole, List.foldl_cons, List.foldl_nil, List.setIfInBounds_toArray, List.set_cons_zero, List.set_cons_succ]
                      go_simp
                  | 22, _, ho, hf =>
                    obtain rfl := Option.some.inj ho
                    obtain rfl : f = false := hf (.inl (by kernel_rfl))
                    have e66 : y 66 = .slice xa wd.length wd.length := hd 19 (by kernel_rfl) (by decide)
                    have v21 : ∃ b, y 68 = .slice (some ⟨b, 0, none⟩) 1 1 ∧ w2.heap.size ≤ b ∧ Held wx b 3 [.int .i64 (s : Nat)] := hd 21 (by kernel_rfl) (by decide)
                    obtain ⟨b12, e68, hb12, hh12⟩ := v21
                    have hz : w2.heap.size ≤ wx.heap.size := hx.1.size
                    obtain ⟨v', w', hrun, ho', hb'⟩ := run_app_cut (ty := 24) (a := xa) (c' := xc) (xs := toI wd) (by have := (hfw.kept (Sm.of_below (hx.2 rfl))).ints; rw [toI_length]; exact this) (ad := ⟨b12, 0, none⟩) (c := 1) (hh12.at (i := 0) rfl) (by rw [toI_length]; omega)
                    rw [toI_length] at hrun
                    refine rstep_value rfl (v := v') (w' := w') ?_ ⟨hx.grow hb', by show OwnI 3 _ _ v' _; rw [toI_append]; exact ho'.mono hz, (fun j _ _ _ h => El12_keep w.heap.size w2.heap.size (w.heap.size + 1 + 1) s i cW xc gW S xa wd t.W _ j y _ _ (hb') (by simpa using h))⟩
                    · simp only [hole, List.foldl_cons, List.foldl_nil, List.setIfInBounds_toArray, List.set_cons_zero, List.set_cons_succ]
                      simp [execOp, resolve, invoke, builtin, Act.eval, e66, e68, Result.andThen]
                      rw [hrun]
                  | 23, _, ho, hf =>
                    obtain rfl := Option.some.inj ho
                    obtain rfl : f = false := hf (.inl (by kernel_rfl))
                    have v22 : OwnI 3 w2.heap.size wx (y 69) (toI (wd ++ [s])) := hd 22 (by kernel_rfl) (by decide)
                    have hz : w2.heap.size ≤ wx.heap.size := hx.1.size
                    have hbl := (Below.refl wx.heap.size wx).alloc (Nat.le_refl _) (.cells #[y 69] 24)
                    obtain ⟨a69, c69, e69⟩ := OwnI.form v22
                    refine rstep_value rfl (v := .slice (some ⟨wx.heap.size, 0, none⟩) 1 1) (w' := wx.alloc (.cells #[y 69] 24)) ?_ ⟨hx.grow hbl, ⟨_, rfl, hz, Held.new _ _ [_]⟩, (fun j _ _ _ h => El12_keep w.heap.size w2.heap.size (w.heap.size + 1 + 1) s i cW xc gW S xa wd t.W _ j y _ _ (hbl) (by simpa using h))⟩
                    · simp only [hole, List.foldl_cons, List.foldl_nil, List.setIfInBounds_toArray, List.set_cons_zero, List.set_cons_succ]
                      rw [e69]
                      go_simp
                  | 24, _, ho, hf =>
                    obtain rfl := Option.some.inj ho
                    obtain rfl : f = false := hf (.inr rfl)
                    have e48 : y 48 = .slice (some ⟨gW, 0, none⟩) t.W.length cW := hd 1 (by kernel_rfl) (by decide)
                    have v22 : OwnI 3 w2.heap.size wx (y 69) (toI (wd ++ [s])) := hd 22 (by kernel_rfl) (by decide)
                    have v23 : ∃ b, y 70 = .slice (some ⟨b, 0, none⟩) 1 1 ∧ w2.heap.size ≤ b ∧ Held wx b 24 [y 69] := hd 23 (by kernel_rfl) (by decide)
                    obtain ⟨b14, e70, hb14, hh14⟩ := v23
                    have hz : w2.heap.size ≤ wx.heap.size := hx.1.size
                    have hbx := hx.2 rfl
                    have hHw := HB2.out.size
                    have hRW := (he2.hw.kept (S' := fun _ => True) (Sm.of_below hbx) (fun _ _ => trivial) (fun _ _ => trivial)).mono (S' := fun k => S k ∨ (y 69).ownBlock = some k) (fun k hk => .inl hk)
                    have hFz : Fz (fun k => S k ∨ (y 69).ownBlock = some k) wx (y 69) (toI (wd ++ [s])) := OwnI.fz v22 (by rw [toI_length, List.length_append]; simp; omega) (fun k hk => .inr hk)
                    obtain ⟨v', w', hrun, hR', hg', hl'⟩ := run_appF (ty := 34) hRW hFz hh14 (fun k hk e => by
                      have hgk : gW = k := by simpa [Value.ownBlock] using e
                      rcases hk with hk | hk
                      · have h1 := he2.hS k hk; have h2 := he2.hw.ty (k := k) (by rw [← hgk]; rfl); rw [h1] at h2; exact absurd h2 (by decide)
                      · have := (v22.lt k hk).1; omega) (by omega) (by omega)
                    have hsm : Sm (fun k => k ≠ gW) wx w' := Sm.of_grown hg' (fun k hk e => hk (by simpa [Value.ownBlock] using e))
                    refine rstep_value rfl (v := v') (w' := w') ?_ ⟨hx.turn hsm, ⟨hR', ?_⟩, (fun j _ hj _ h => El12_turn w.heap.size w2.heap.size (w.heap.size + 1 + 1) s i cW xc gW S xa wd t.W hsm hgWl j y hj h)⟩
                    · simp only [hole, List.foldl_cons, List.foldl_nil, List.setIfInBounds_toArray, List.set_cons_zero, List.set_cons_succ]
                      simp [execOp, resolve, invoke, builtin, Act.eval, e48, e70, Result.andThen]
                      rw [hrun]
                    · rcases hl' with hl' | hl'
                      · exact .inl hl'
                      · exact .inr ⟨_, hl', hz⟩
                  | 25, _, ho, _ =>
                    obtain rfl := Option.some.inj ho
                    refine rstep_value rfl (v := .pointer (some ⟨(w.heap.size + 1 + 1), 0, none⟩)) (w' := wx) ?_ ⟨by simpa using hx, rfl, by intro j hj _ _ h; simpa using h⟩
                    · simp only [hole, List.foldl_cons, List.foldl_nil, List.setIfInBounds_toArray, List.set_cons_zero, List.set_cons_succ]
                      go_simp
                  | _ + 26, him, _, _ => exact absurd him (by omega)
                · intro o ho y wx hx hd hini
                  obtain rfl := Option.some.inj ho
                  have e47 : y 47 = .pointer (some ⟨(w.heap.size + 1 + 1), 0, none⟩) := hd 0 (by decide)
                  have e48 : y 48 = .slice (some ⟨gW, 0, none⟩) t.W.length cW := hd 1 (by decide)
                  have e49 : y 49 = .pointer (some ⟨(w.heap.size + 1 + 1), 0, none⟩) := hd 2 (by decide)
                  have e50 : y 50 = .slice (some ⟨gW, 0, none⟩) t.W.length cW := hd 3 (by decide)
                  have e51 : y 51 = .int .i64 (i : Nat) := hd 4 (by decide)
                  have e52 : y 52 = .pointer (some ⟨gW, i, none⟩) := hd 5 (by decide)
                  have e53 : y 53 = .slice xa wd.length xc := hd 6 (by decide)
                  have e54 : y 54 = .pointer (some ⟨(w.heap.size + 1 + 1), 0, none⟩) := hd 7 (by decide)
                  have e55 : y 55 = .slice (some ⟨gW, 0, none⟩) t.W.length cW := hd 8 (by decide)
                  have e56 : y 56 = .int .i64 (i : Nat) := hd 9 (by decide)
                  have e57 : y 57 = .pointer (some ⟨gW, i, none⟩) := hd 10 (by decide)
                  have e58 : y 58 = .slice xa wd.length xc := hd 11 (by decide)
                  have e59 : y 59 = .int .i64 (wd.length : Nat) := hd 12 (by decide)
                  have e60 : y 60 = .pointer (some ⟨(w.heap.size + 1 + 1), 0, none⟩) := hd 13 (by decide)
                  have e61 : y 61 = .slice (some ⟨gW, 0, none⟩) t.W.length cW := hd 14 (by decide)
                  have e62 : y 62 = .int .i64 (i : Nat) := hd 15 (by decide)
                  have e63 : y 63 = .pointer (some ⟨gW, i, none⟩) := hd 16 (by decide)
                  have e64 : y 64 = .slice xa wd.length xc := hd 17 (by decide)
                  have e65 : y 65 = .int .i64 (wd.length : Nat) := hd 18 (by decide)
                  have e66 : y 66 = .slice xa wd.length wd.length := hd 19 (by decide)
                  have e67 : y 67 = .int .i64 (s : Nat) := hd 20 (by decide)
                  have v21 : ∃ b, y 68 = .slice (some ⟨b, 0, none⟩) 1 1 ∧ w2.heap.size ≤ b ∧ Held wx b 3 [.int .i64 (s : Nat)] := hd 21 (by decide)
                  have v22 : OwnI 3 w2.heap.size wx (y 69) (toI (wd ++ [s])) := hd 22 (by decide)
                  have v23 : ∃ b, y 70 = .slice (some ⟨b, 0, none⟩) 1 1 ∧ w2.heap.size ≤ b ∧ Held wx b 24 [y 69] := hd 23 (by decide)
                  have v24 : RowsF (fun k => S k ∨ (y 69).ownBlock = some k) w.heap.size wx (y 71) (t.W ++ [wd ++ [s]]) ∧ ((y 71).ownBlock = some gW ∨ ∃ b, (y 71).ownBlock = some b ∧ w2.heap.size ≤ b) := hd 24 (by decide)
                  have e72 : y 72 = .pointer (some ⟨(w.heap.size + 1 + 1), 0, none⟩) := hd 25 (by decide)
                  clear hd
                  obtain ⟨a71, c71, e71⟩ := v24.1.form
                  have hTx := he2.ht.sm hx.1 hbTg
                  have ct := hTx.at (i := 0) rfl
                  have cf := hTx.free 0
                  refine rstep_skip rfl (w' := wx.setCell ⟨(w.heap.size + 1 + 1), 0, none⟩ (y 71)) ?_ ?_
                  · simp only [hole, List.foldl_cons, List.foldl_nil, List.setIfInBounds_toArray, List.set_cons_zero, List.set_cons_succ]
                    rw [e71, e72]
                    go_simp
                  have hgn : w2.drew.grownBy wx (some gW) := grown_of_sm (hx.1.weak fun k _ hk e => hk (by rw [e]))
                  have hS' : ∀ k, (S k ∨ (y 69).ownBlock = some k) → typeAt wx k = some 3 := fun k hk => by
                    rcases hk with hk | hk
                    · rw [ty_block (hx.1.block k (ty_ne (by rw [he2.hS k hk, he2.hw.ty (k := gW) rfl]; decide)) (ty_lt (he2.hS k hk)))]; exact he2.hS k hk
                    · exact own_ty v22 hk
                  have he8 := he2.worded (S' := fun k => S k ∨ (y 69).ownBlock = some k) (fun k hk => .inl hk) v24.1 hgn hS' v24.2
                  have hs8 : Sm (fun k => k ≠ gW ∧ k ≠ (w.heap.size + 1 + 1)) w2.drew (wx.setCell ⟨(w.heap.size + 1 + 1), 0, none⟩ (y 71)) := (hx.1.weak fun _ _ hk => hk.1).trans ⟨rfl, rfl, rfl, by simp [World.setCell], fun k hk _ => Below.heap_setCell wx ⟨(w.heap.size + 1 + 1), 0, none⟩ (y 71) k hk.2⟩
                  have hq8 : OwnI 3 wr.heap.size (wx.setCell ⟨(w.heap.size + 1 + 1), 0, none⟩ (y 71)) (.slice aq Q.length cq) (toI Q) := own_sm (HQ2W.out.drew) hs8 (fun j hj => ⟨ty_ne (by rw [own_ty HQ2W.out.drew hj, he2.hw.ty (k := gW) rfl]; decide), ty_ne (by rw [own_ty HQ2W.out.drew hj, he2.ht.ty]; decide)⟩)
                  have hB8 : Below w.heap.size w (wx.setCell ⟨(w.heap.size + 1 + 1), 0, none⟩ (y 71)) := (hx.1.below HB2.out.drew hgWH HB2.out.size).setCell (by simp; omega) _
                  obtain ⟨S8, hS8⟩ : ∃ S8 : Nat → Prop, (fun k => S k ∨ (y 69).ownBlock = some k) = S8 := ⟨_, rfl⟩
                  rw [hS8] at he8
                  obtain ⟨w8, hw8⟩ : ∃ w8, wx.setCell ⟨(w.heap.size + 1 + 1), 0, none⟩ (y 71) = w8 := ⟨_, rfl⟩
                  rw [hw8] at he8 hq8 hB8 ⊢
                  have HE8 := Lib.hid he8
                  have HQ8 := Lib.hid hq8
                  have HB8 := Lib.hid hB8
                  have hsz8 := hB8.size
                  obtain ⟨v71, hv71⟩ : ∃ v71, y 71 = v71 := ⟨_, rfl⟩
                  rw [hv71] at HE8
                  rw [updO_at_none y _ undef rfl]
                  simp only [hole, List.foldl_cons, List.foldl_nil, List.setIfInBounds_toArray, List.set_cons_zero, List.set_cons_succ, e47, e48, e49, e50, e51, e52, e53, e54, e55, e56, e57, e58, e59, e60, e61, e62, e63, e64, e65, e66, e67, e72]
                  clear e47 e48 e49 e50 e51 e52 e53 e54 e55 e56 e57 e58 e59 e60 e61 e62 e63 e64 e65 e66 e67 e72 e71 hini he8 hq8 hB8 hS8 hw8 hv71 hs8 hS' hgn hTx ct cf v21 v22 v23 v24 hx
                  have HNT := Lib.hid (show some (w.heap.size + 1 + 1) ≠ (Value.slice (some ⟨gP, 0, none⟩) t.P.length cP).ownBlock from fun e => by have h1 := HE8.out.ht.ty; rw [HE8.out.hp.ty e.symm] at h1; exact absurd h1 (by decide))
                  have ct8 := HE8.out.ht.at (i := 1) rfl
                  have hHs := hB0H
                  go_wp2_with (at_builtin; refine wpList_appF rfl _ _ rfl (fun k => S8 k ∨ (Value.slice aq Q.length cq).ownBlock = some k) w.heap.size w8.heap.size (.slice (some ⟨gP, 0, none⟩) t.P.length cP) (.slice aq Q.length cq) t.P Q rfl ((HE8.out.hp.alloc _).mono fun k hk => .inl hk) ((OwnI.fz (HQ8.out.alloc _) (by rw [toI_length]; have := HQ2.out; omega) (fun k hk => .inr hk))) rfl (Held.new _ _ [_]) (fun k hk e => by
                      rcases hk with hk | hk
                      · have h1 := HE8.out.hS k hk; have h2 := HE8.out.hp.ty e; rw [h1] at h2; exact absurd h2 (by decide)
                      · have h1 := own_ty HQ8.out hk; have h2 := HE8.out.hp.ty e; rw [h1] at h2; exact absurd h2 (by decide)) (by have := HTP.out; omega) (by simp; omega) ?_; intro v9 w9 hr9 hg9 hl9; have hTx := (HE8.out.ht.alloc (.cells #[.slice aq Q.length cq] 24)).grown hg9 HNT.out; have ct9 := hTx.at (i := 1) rfl; have cf9 := hTx.free 1; have HR9 := Lib.hid hr9; have HG9 := Lib.hid hg9; have HL9 := Lib.hid hl9; have hf9 := hr9.form; clear hr9 hg9 hl9 hTx; obtain ⟨a9, c9, rfl⟩ := hf9)
                  have hS9 : ∀ j, (S8 j ∨ (Value.slice aq Q.length cq).ownBlock = some j) → typeAt w9 j = some 3 := fun j hj => by
                    have h1 : typeAt (w8.alloc (.cells #[.slice aq Q.length cq] 24)) j = some 3 := by
                      rcases hj with hj | hj
                      · exact (HE8.out.alloc _).hS j hj
                      · exact own_ty (World.ownsRow.alloc HQ8.out _) hj
                    have hsm9 := Sm.of_grown (S := fun j => some j ≠ (Value.slice (some ⟨gP, 0, none⟩) t.P.length cP).ownBlock) HG9.out fun _ hk => hk
                    rw [ty_block (hsm9.block j (fun e => by have h2 := (HE8.out.alloc (.cells #[.slice aq Q.length cq] 24)).hp.ty e.symm; rw [h1] at h2; exact absurd h2 (by decide)) (ty_lt h1))]; exact h1
                  have he9 := (HE8.out.alloc (.cells #[.slice aq Q.length cq] 24)).pointed (S' := fun j => S8 j ∨ (Value.slice aq Q.length cq).ownBlock = some j) (fun j hj => .inl hj) HR9.out HG9.out hS9 (HL9.out.imp id fun h => ⟨_, h, Nat.le_refl _⟩)
                  have hlen9 : (t.P ++ [Q]).length = t.P.length + 1 := by simp
                  rw [hlen9] at he9
                  have hB9 : Below w.heap.size w w9 := (HB8.out.alloc hsz8 _).grown HG9.out (by simp; omega) (fun j hj => by obtain ⟨vs, ho, _⟩ := HE8.out.hp; have := (World.ownsRow.lt ho j hj).1; omega)
                  have hgd : t.W.getD i [] = wd := by rw [← HWQ.out]; exact getDL HIW.out
                  have hfin := HN.out
                  rw [hgd] at hfin
                  go_roundw
                  case rel => exact ⟨s + 1, _, v71, _, by go_num, HSM.out, by rw [hfin]; exact he9, hB9.setCell (by simp; omega) _⟩
                  case measure => have := HSM.out; simp [intOf]; omega
          · have hsmi : ¬ (s : Int) < ((mirs K n : Nat) : Int) := by omega
            have HN := Lib.hid (show rfN K n (i + 1) = rfR K n i (rfN K n i) s by rw [show s = mirs K n by omega]; show rfK K n i (rfN K n i) = _; unfold rfK; rw [if_pos HLT.out])
            have HE := Lib.hid he
            have HB := Lib.hid hb
            have HLI := Lib.hid (rfR_le K n i (rfN K n i) s).1
            clear he hb hs hsm
            go_wp2
            go_roundw
            case rel => exact ⟨i + 1, S, vW, vP, by go_num, by have := HI5.out.1; have := HLT.out; omega, by rw [HN.out]; have := HLI.out; have := HLT.out; omega, by rw [HN.out]; exact HE.out, HB.out⟩
            case measure => have := HLT.out; have := HI5.out.1; simp [intOf]; omega
      · have hlti : ¬ (i : Int) < ((rfN K n i).W.length : Int) := by omega
        have HNN := rfN_end (K := K) (n := n) (i := i) (by omega) hlt
        rw [HNN] at he hlti cT
        have hN := rfN_le hv (Nat.le_refl 130)
        have hLn := rfN_len K n 130
        have HMA := Lib.hid (fun (j : Nat) (hj : j < (rfN K n 130).W.length) (s : Nat) (hs : s < mirs K n) => mem_after hv hj hs)
        have HPT := Lib.hid (fun (p : List Nat) (hp : p ∈ (rfN K n 130).P) => pt_len hv hp)
        have HRT := Lib.hid (fun (H bR bT : Nat) (S : Nat → Prop) (wr : World) (vW vP vX : Value) (P : List (List Nat)) (h : ElI K n H bR bT S wr vW vP vX (rfN K n 130).W P ((List.range (rfN K n 130).W.length).map (rowN K n (rfN K n 130)))) (w' : World) (hs : Sm (fun k => k ≠ bR) wr w') => ElI.rtab hv h hs)
        have HTD := Lib.hid (show rfN K n 130 = rfN K n 130 from rfl)
        rw [HNN] at *
        obtain ⟨t, ht⟩ : ∃ t, rfN K n 130 = t := ⟨_, rfl⟩
        rw [ht] at he hlti cT hN hLn HMA HPT HRT
        obtain ⟨aP, cP, rfl⟩ := he.hp.form
        have hiN : (i : Int) < 130 := by omega
        have HE := Lib.hid he
        have HB := Lib.hid hb
        have HN := Lib.hid hN
        have HLN := Lib.hid hLn
        have HT := Lib.hid ht
        clear he hb hN hLn ht HNN hle hi5 hiW hlt HTD
        go_upto_region 16 with (fail)
        obtain ⟨wo, rfl⟩ : ∃ wo : World, wo = wr := ⟨_, rfl⟩
        go_loopw [83] (fun ix wr => ∃ (i : Nat) (S : Nat → Prop) (vX : Value), ix = .int .i64 (i : Nat) ∧ i ≤ t.W.length ∧ ElI K n w.heap.size (w.heap.size + 1) (w.heap.size + 1 + 1) S wr (.slice aW t.W.length cW) (.slice aP t.P.length cP) vX t.W t.P ((List.range i).map (rowN K n t)) ∧ Below w.heap.size w wr) (fun ix _ => t.W.length - (intOf ix).toNat)
        case atStart => exact ⟨0, S, _, rfl, Nat.zero_le _, HE.out, HB.out⟩
        case round =>
          clear HE HB cT hlti hiN
          rename_i wr
          obtain ⟨i, S, vX, rfl, hi, he, hb⟩ := hrel
          by_cases hlt : i < t.W.length
          · have hlti : (i : Int) < (t.W.length : Int) := by omega
            have hWb : (t.W.length : Int) ≤ 120 := by have := HN.out; omega
            have cg0 := he.hg.at (i := 0) rfl
            have cg1 := he.hg.at (i := 1) rfl
            have HE := Lib.hid he
            have HB := Lib.hid hb
            clear he hb
            go_upto_region 20 with (go_at_call 30; refine (RM.out _).mono ?_; rintro e wm ⟨rfl, hbm⟩)
            have HEM := Lib.hid (HE.out.below hbm)
            have HBM := Lib.hid (HB.out.trans (hbm.mono HB.out.size))
            have HLT := Lib.hid hlt
            have HI := Lib.hid hi
            clear hbm cg0 cg1 HE HB hlt hi
            obtain ⟨wo, rfl⟩ : ∃ wo : World, wo = wm := ⟨_, rfl⟩
            go_loopw [9, 88] (fun row sx wr => ∃ (s : Nat), sx = .int .i64 (s : Nat) ∧ s ≤ mirs K n ∧ ElI K n w.heap.size (w.heap.size + 1) (w.heap.size + 1 + 1) S wr (.slice aW t.W.length cW) (.slice aP t.P.length cP) vX t.W t.P ((List.range i).map (rowN K n t)) ∧ OwnI 3 w.heap.size wr row (toI ((rowN K n t i).take s)) ∧ (∀ j, row.ownBlock = some j → ¬ S j) ∧ Below w.heap.size w wr) (fun _ sx _ => mirs K n - (intOf sx).toNat)
            case atStart => exact ⟨0, rfl, Nat.zero_le _, HEM.out, OwnI.nil _ _ _, fun j h => (by cases h), HBM.out⟩
            case round =>
              clear HEM HBM
              rename_i wr
              obtain ⟨s, rfl, hs, he, hrow, hnS, hb⟩ := hrel
              have hm4i : ((mirs K n : Nat) : Int) ≤ 4 := by have := mirs_le hv; omega
              by_cases hsm : s < mirs K n
              · have hsmi : (s : Int) < ((mirs K n : Nat) : Int) := by omega
                have hps := pt_of hv hsm
                rw [HT.out] at hps
                have hiP : i < t.P.length := by have := HLT.out; have := HLN.out; omega
                have hiPi : (i : Int) < (t.P.length : Int) := by omega
                have hdd := getDL hiP
                have hpt := HPT.out (t.P.getD i []) (by rw [hdd]; exact List.getElem_mem hiP)
                have hmem := HMA.out i HLT.out s hsm
                have htk := rowN_take K n t i s hsm
                have hrll : ((rowN K n t i).take s).length ≤ 4 := by have := mirs_le hv; rw [List.length_take]; omega
                obtain ⟨rowl, hrl⟩ : ∃ rowl, (rowN K n t i).take s = rowl := ⟨_, rfl⟩
                rw [hrl] at hrow htk hrll
                obtain ⟨aR, cR, rfl⟩ := hrow.form
                rw [toI_length] at *
                obtain ⟨w3, rfl⟩ : ∃ w3 : World, w3 = wr := ⟨_, rfl⟩
                have he3 := he.drew
                obtain ⟨gP, cP', ru, eP, hgP, hgPl, hcrP, hfz⟩ := he3.hp.at i hiP
                obtain ⟨rfl, _, rfl⟩ := Value.slice.inj eP
                have hrow3 := hfz.ints
                rw [← hdd] at hrow3
                obtain ⟨p, hpe⟩ : ∃ p, t.P.getD i [] = p := ⟨_, rfl⟩
                rw [hpe] at hpt hrow3 hmem htk
                obtain ⟨q, hq⟩ : ∃ q, movesN K n s = q := ⟨_, rfl⟩
                rw [hq] at hmem htk
                have MS := Lib.hid (fun w' => moves_any K n s w' (moves_ok hv hsm))
                unfold MvIs at MS
                rw [hq] at MS hps
                have hql : (toI q).length ≤ 17592186044416 := by rw [toI_length]; omega
                have hQl : (toI (afterN p q)).length ≤ 17592186044416 := by rw [toI_length]; unfold afterN; rw [List.length_map]; omega
                have AS := Lib.hid (fun (w' : World) (va vs : Value) (h1 : Ints w' va (toI p)) (h2 : Ints w' vs (toI q)) => after_any va vs p q w' h1 h2 (fun x hx => by have := hps.2.2 x hx; omega) (by omega))
                obtain ⟨Q, hQ⟩ : ∃ Q, afterN p q = Q := ⟨_, rfl⟩
                rw [hQ] at AS hQl hmem htk
                have FZ := Lib.hid (show findI t.P Q = ((t.P.idxOf Q : Nat) : Int) by unfold findI; rw [if_pos hmem])
                obtain ⟨z, hz⟩ : ∃ z, t.P.idxOf Q = z := ⟨_, rfl⟩
                rw [hz] at FZ htk
                have FDX := Lib.hid (fun (w' : World) (vq : Value) (hp' : RowsF S w.heap.size w' (.slice (some ⟨gP, 0, none⟩) t.P.length cP) t.P) (hq' : Ints w' vq (toI Q)) => find_any (.slice aW t.W.length cW) _ vX vq t.P Q w' hp' hq' (by have := HN.out; omega))
                obtain ⟨ra, rc, rfl, hrow1⟩ := hrow3
                have HROW := Lib.hid (show Ints w3.drew (.slice ra (toI p).length rc) (toI p) from ⟨ra, rc, rfl, hrow1⟩)
                rw [toI_length] at HROW hcrP
                have HCRP := Lib.hid hcrP
                have HB3 := Lib.hid hb
                have HRW := Lib.hid hrow
                have HRS := Lib.hid hnS
                have HRL := Lib.hid (show rowl.length ≤ 10 by omega)
                have HRN := Lib.hid (fun (k : Nat) (hk : (Value.slice aR rowl.length cR).ownBlock = some k) => (hrow.lt k hk).2)
                have HSM := Lib.hid (show s + 1 ≤ mirs K n by omega)
                have HTK := Lib.hid htk
                clear he hb hrow hnS hrow1 hfz hps hiP hmem hpt hdd hpe hq hs hsm hgP hcrP htk hrl hQ hz eP
                go_upto_region 22 with (fail)
                refine wp_region_inv (by kernel_rfl) [9, 91, 92, 93, 94, 95, 96, 97, 98, 99, 100, 101, 102, 103, 104] (by kernel_rfl) (by kernel_rfl) (by kernel_rfl) 14 13 (by decide) rfl (by kernel_rfl) (Inv6 (Value.slice aR rowl.length cR).ownBlock w3.drew) (Inv6.start (Value.slice aR rowl.length cR).ownBlock w3.drew) (El22 w.heap.size w3.heap.size (w.heap.size + 1 + 1) s i cP gP rc K n ra (Value.slice aR rowl.length cR) (.slice aW t.W.length cW) vX p q Q rowl t.P z) ?_ ?_ ?_
                · intro f j y y' wx hj h hv
                  match j, hj, h, hv with
                  | 0, _, h, hv =>
                    have e91 : y 91 = y' 91 := h 0 91 (.inr rfl) (by kernel_rfl)
                    have hv' : El22 w.heap.size w3.heap.size (w.heap.size + 1 + 1) s i cP gP rc K n ra (Value.slice aR rowl.length cR) (.slice aW t.W.length cW) vX p q Q rowl t.P z f 0 y wx := hv
                    simp only [El22] at hv' ⊢
                    rw [← e91]
                    exact hv'
                  | 1, _, h, hv =>
                    have e92 : y 92 = y' 92 := h 1 92 (.inr rfl) (by kernel_rfl)
                    have hv' : El22 w.heap.size w3.heap.size (w.heap.size + 1 + 1) s i cP gP rc K n ra (Value.slice aR rowl.length cR) (.slice aW t.W.length cW) vX p q Q rowl t.P z f 1 y wx := hv
                    simp only [El22] at hv' ⊢
                    rw [← e92]
                    exact hv'
                  | 2, _, h, hv =>
                    have e93 : y 93 = y' 93 := h 2 93 (.inr rfl) (by kernel_rfl)
                    have hv' : El22 w.heap.size w3.heap.size (w.heap.size + 1 + 1) s i cP gP rc K n ra (Value.slice aR rowl.length cR) (.slice aW t.W.length cW) vX p q Q rowl t.P z f 2 y wx := hv
                    simp only [El22] at hv' ⊢
                    rw [← e93]
                    exact hv'
                  | 3, _, h, hv =>
                    have e94 : y 94 = y' 94 := h 3 94 (.inr rfl) (by kernel_rfl)
                    have hv' : El22 w.heap.size w3.heap.size (w.heap.size + 1 + 1) s i cP gP rc K n ra (Value.slice aR rowl.length cR) (.slice aW t.W.length cW) vX p q Q rowl t.P z f 3 y wx := hv
                    simp only [El22] at hv' ⊢
                    rw [← e94]
                    exact hv'
                  | 4, _, h, hv =>
                    have e95 : y 95 = y' 95 := h 4 95 (.inr rfl) (by kernel_rfl)
                    have hv' : El22 w.heap.size w3.heap.size (w.heap.size + 1 + 1) s i cP gP rc K n ra (Value.slice aR rowl.length cR) (.slice aW t.W.length cW) vX p q Q rowl t.P z f 4 y wx := hv
                    simp only [El22] at hv' ⊢
                    rw [← e95]
                    exact hv'
                  | 5, _, h, hv =>
                    have e96 : y 96 = y' 96 := h 5 96 (.inr rfl) (by kernel_rfl)
                    have hv' : El22 w.heap.size w3.heap.size (w.heap.size + 1 + 1) s i cP gP rc K n ra (Value.slice aR rowl.length cR) (.slice aW t.W.length cW) vX p q Q rowl t.P z f 5 y wx := hv
                    simp only [El22] at hv' ⊢
                    rw [← e96]
                    exact hv'
                  | 6, _, h, hv =>
                    have e97 : y 97 = y' 97 := h 6 97 (.inr rfl) (by kernel_rfl)
                    have hv' : El22 w.heap.size w3.heap.size (w.heap.size + 1 + 1) s i cP gP rc K n ra (Value.slice aR rowl.length cR) (.slice aW t.W.length cW) vX p q Q rowl t.P z f 6 y wx := hv
                    simp only [El22] at hv' ⊢
                    rw [← e97]
                    exact hv'
                  | 7, _, h, hv =>
                    have e98 : y 98 = y' 98 := h 7 98 (.inr rfl) (by kernel_rfl)
                    have hv' : El22 w.heap.size w3.heap.size (w.heap.size + 1 + 1) s i cP gP rc K n ra (Value.slice aR rowl.length cR) (.slice aW t.W.length cW) vX p q Q rowl t.P z f 7 y wx := hv
                    simp only [El22] at hv' ⊢
                    rw [← e98]
                    exact hv'
                  | 8, _, h, hv =>
                    have e99 : y 99 = y' 99 := h 8 99 (.inr rfl) (by kernel_rfl)
                    have hv' : El22 w.heap.size w3.heap.size (w.heap.size + 1 + 1) s i cP gP rc K n ra (Value.slice aR rowl.length cR) (.slice aW t.W.length cW) vX p q Q rowl t.P z f 8 y wx := hv
                    simp only [El22] at hv' ⊢
                    rw [← e99]
                    exact hv'
                  | 9, _, h, hv =>
                    have e100 : y 100 = y' 100 := h 9 100 (.inr rfl) (by kernel_rfl)
                    have hv' : El22 w.heap.size w3.heap.size (w.heap.size + 1 + 1) s i cP gP rc K n ra (Value.slice aR rowl.length cR) (.slice aW t.W.length cW) vX p q Q rowl t.P z f 9 y wx := hv
                    simp only [El22] at hv' ⊢
                    rw [← e100]
                    exact hv'
                  | 10, _, h, hv =>
                    have e101 : y 101 = y' 101 := h 10 101 (.inr rfl) (by kernel_rfl)
                    have hv' : El22 w.heap.size w3.heap.size (w.heap.size + 1 + 1) s i cP gP rc K n ra (Value.slice aR rowl.length cR) (.slice aW t.W.length cW) vX p q Q rowl t.P z f 10 y wx := hv
                    simp only [El22] at hv' ⊢
                    rw [← e101]
                    exact hv'
                  | 11, _, h, hv =>
                    have e102 : y 102 = y' 102 := h 11 102 (.inr rfl) (by kernel_rfl)
                    have hv' : El22 w.heap.size w3.heap.size (w.heap.size + 1 + 1) s i cP gP rc K n ra (Value.slice aR rowl.length cR) (.slice aW t.W.length cW) vX p q Q rowl t.P z f 11 y wx := hv
                    simp only [El22] at hv' ⊢
                    rw [← e102]
                    exact hv'
                  | 12, _, h, hv =>
                    have e103 : y 103 = y' 103 := h 12 103 (.inr rfl) (by kernel_rfl)
                    have hv' : El22 w.heap.size w3.heap.size (w.heap.size + 1 + 1) s i cP gP rc K n ra (Value.slice aR rowl.length cR) (.slice aW t.W.length cW) vX p q Q rowl t.P z f 12 y wx := hv
                    simp only [El22] at hv' ⊢
                    rw [← e103]
                    exact hv'
                  | 13, _, h, hv =>
                    have e104 : y 104 = y' 104 := h 13 104 (.inr rfl) (by kernel_rfl)
                    have hv' : El22 w.heap.size w3.heap.size (w.heap.size + 1 + 1) s i cP gP rc K n ra (Value.slice aR rowl.length cR) (.slice aW t.W.length cW) vX p q Q rowl t.P z f 13 y wx := hv
                    simp only [El22] at hv' ⊢
                    rw [← e104]
                    exact hv'
                  | j + 14, hj, _, _ => exact absurd hj (by omega)
                · intro io o him ho f y wx hx hf hd hini
                  match io, him, ho, hf with
                  | 0, _, ho, hf =>
                    obtain rfl := Option.some.inj ho
                    obtain rfl : f = false := hf (.inl (by kernel_rfl))
                    have h9 : y 9 = (Value.slice aR rowl.length cR) := hini 14 9 (.inl (by kernel_rfl)) (by decide) (by kernel_rfl)
                    refine rstep_value rfl (v := (Value.slice aR rowl.length cR)) (w' := wx) ?_ ⟨by simpa using hx, rfl, by intro j hj _ _ h; simpa using h⟩
                    · simp only [hole, List.foldl_cons, List.foldl_nil, List.setIfInBounds_toArray, List.set_cons_zero, List.set_cons_succ]
                      go_simp
                  | 1, _, ho, hf =>
                    obtain rfl := Option.some.inj ho
                    obtain rfl : f = false := hf (.inl (by kernel_rfl))
                    have t0 := (he3.ht.below (hx.2 rfl) he3.ht.lt).at (i := 0) rfl
                    have t1 := (he3.ht.below (hx.2 rfl) he3.ht.lt).at (i := 1) rfl
                    have t2 := (he3.ht.below (hx.2 rfl) he3.ht.lt).at (i := 2) rfl
                    refine rstep_value rfl (v := .agg #[(.slice aW t.W.length cW), .slice (some ⟨gP, 0, none⟩) t.P.length cP, vX]) (w' := wx) ?_ ⟨by simpa using hx, rfl, by intro j hj _ _ h; simpa using h⟩
                    · simp only [hole, List.foldl_cons, List.foldl_nil, List.setIfInBounds_toArray, List.set_cons_zero, List.set_cons_succ]
                      go_simp
                  | 2, _, ho, hf =>
                    obtain rfl := Option.some.inj ho
                    obtain rfl : f = false := hf (.inl (by kernel_rfl))
                    refine rstep_value rfl (v := .pointer (some ⟨(w.heap.size + 1 + 1), 1, none⟩)) (w' := wx) ?_ ⟨by simpa using hx, rfl, by intro j hj _ _ h; simpa using h⟩
                    · simp only [hole, List.foldl_cons, List.foldl_nil, List.setIfInBounds_toArray, List.set_cons_zero, List.set_cons_succ]
                      go_simp
                  | 3, _, ho, hf =>
                    obtain rfl := Option.some.inj ho
                    obtain rfl : f = false := hf (.inl (by kernel_rfl))
                    have e93 : y 93 = .pointer (some ⟨(w.heap.size + 1 + 1), 1, none⟩) := hd 2 (by kernel_rfl) (by decide)
                    have t1 := (he3.ht.below (hx.2 rfl) he3.ht.lt).at (i := 1) rfl
                    refine rstep_value rfl (v := .slice (some ⟨gP, 0, none⟩) t.P.length cP) (w' := wx) ?_ ⟨by simpa using hx, rfl, by intro j hj _ _ h; simpa using h⟩
                    · simp only [hole, List.foldl_cons, List.foldl_nil, List.setIfInBounds_toArray, List.set_cons_zero, List.set_cons_succ]
                      go_simp
                  | 4, _, ho, hf =>
                    obtain rfl := Option.some.inj ho
                    obtain rfl : f = false := hf (.inl (by kernel_rfl))
                    refine rstep_value rfl (v := .int .i64 (i : Nat)) (w' := wx) ?_ ⟨by simpa using hx, rfl, by intro j hj _ _ h; simpa using h⟩
                    · simp only [hole, List.foldl_cons, List.foldl_nil, List.setIfInBounds_toArray, List.set_cons_zero, List.set_cons_succ]
                      go_simp
                  | 5, _, ho, hf =>
                    obtain rfl := Option.some.inj ho
                    obtain rfl : f = false := hf (.inl (by kernel_rfl))
                    have e94 : y 94 = .slice (some ⟨gP, 0, none⟩) t.P.length cP := hd 3 (by kernel_rfl) (by decide)
                    have e95 : y 95 = .int .i64 (i : Nat) := hd 4 (by kernel_rfl) (by decide)
                    refine rstep_value rfl (v := .pointer (some ⟨gP, i, none⟩)) (w' := wx) ?_ ⟨by simpa using hx, rfl, by intro j hj _ _ h; simpa using h⟩
                    · simp only [hole, List.foldl_cons, List.foldl_nil, List.setIfInBounds_toArray, List.set_cons_zero, List.set_cons_succ]
                      go_simp
                  | 6, _, ho, hf =>
                    obtain rfl := Option.some.inj ho
                    obtain rfl : f = false := hf (.inl (by kernel_rfl))
                    have e96 : y 96 = .pointer (some ⟨gP, i, none⟩) := hd 5 (by kernel_rfl) (by decide)
                    have c1 := ((hx.2 rfl).cell (p := ⟨gP, i, none⟩) hgPl).trans HCRP.out
                    refine rstep_value rfl (v := .slice ra p.length rc) (w' := wx) ?_ ⟨by simpa using hx, rfl, by intro j hj _ _ h; simpa using h⟩
                    · simp only [hole, List.foldl_cons, List.foldl_nil, List.setIfInBounds_toArray, List.set_cons_zero, List.set_cons_succ]
                      go_simp
                  | 7, _, ho, hf =>
                    obtain rfl := Option.some.inj ho
                    obtain rfl : f = false := hf (.inl (by kernel_rfl))
                    have g0 := (he3.hg.below (hx.2 rfl) he3.hg.lt).at (i := 0) rfl
                    have g1 := (he3.hg.below (hx.2 rfl) he3.hg.lt).at (i := 1) rfl
                    refine rstep_value rfl (v := .agg #[.int .u8 (K : Nat), .int .i64 (n : Nat)]) (w' := wx) ?_ ⟨by simpa using hx, rfl, by intro j hj _ _ h; simpa using h⟩
                    · simp only [hole, List.foldl_cons, List.foldl_nil, List.setIfInBounds_toArray, List.set_cons_zero, List.set_cons_succ]
                      go_simp
                  | 8, _, ho, hf =>
                    obtain rfl := Option.some.inj ho
                    obtain rfl : f = false := hf (.inl (by kernel_rfl))
                    refine rstep_value rfl (v := .int .i64 (s : Nat)) (w' := wx) ?_ ⟨by simpa using hx, rfl, by intro j hj _ _ h; simpa using h⟩
                    · simp only [hole, List.foldl_cons, List.foldl_nil, List.setIfInBounds_toArray, List.set_cons_zero, List.set_cons_succ]
                      go_simp
                  | 9, _, ho, hf =>
                    obtain rfl := Option.some.inj ho
                    obtain rfl : f = false := hf (.inl (by kernel_rfl))
                    have e98 : y 98 = .agg #[.int .u8 (K : Nat), .int .i64 (n : Nat)] := hd 7 (by kernel_rfl) (by decide)
                    have e99 : y 99 = .int .i64 (s : Nat) := hd 8 (by kernel_rfl) (by decide)
                    refine rstep_call rfl (f := 63) (args := #[.agg #[.int .u8 (K : Nat), .int .i64 (n : Nat)], .int .i64 (s : Nat)]) (w' := wx) ?_ (MS.out wx) ?_
                    · simp only [hole, List.foldl_cons, List.foldl_nil, List.setIfInBounds_toArray, List.set_cons_zero, List.set_cons_succ]
                      go_simp
                    · rintro e w'' ⟨v, rfl, ho, hb⟩
                      exact ⟨_, rfl, hx.grow hb, fun _ => ho.ints hql, (fun j _ _ _ h => El22_keep w.heap.size w3.heap.size (w.heap.size + 1 + 1) s i cP gP rc K n ra (Value.slice aR rowl.length cR) (.slice aW t.W.length cW) vX p q Q rowl t.P z _ j y _ _ (hb) (by simpa using h))⟩
                  | 10, _, ho, hf =>
                    obtain rfl := Option.some.inj ho
                    obtain rfl : f = false := hf (.inl (by kernel_rfl))
                    have e97 : y 97 = .slice ra p.length rc := hd 6 (by kernel_rfl) (by decide)
                    have v9 : false = false → Ints wx (y 100) (toI q) := hd 9 (by kernel_rfl) (by decide)
                    have hrp := HROW.out.below (hx.2 rfl)
                    refine rstep_call rfl (f := 62) (args := #[.slice ra p.length rc, y 100]) (w' := wx) ?_ (AS.out wx _ _ hrp (v9 rfl)) ?_
                    · simp only [hole, List.foldl_cons, List.foldl_nil, List.setIfInBounds_toArray, List.set_cons_zero, List.set_cons_succ]
                      go_simp
                    · rintro e w'' ⟨v, rfl, ho, hb⟩
                      exact ⟨_, rfl, hx.grow hb, fun _ => ho.ints hQl, (fun j _ _ _ h => El22_keep w.heap.size w3.heap.size (w.heap.size + 1 + 1) s i cP gP rc K n ra (Value.slice aR rowl.length cR) (.slice aW t.W.length cW) vX p q Q rowl t.P z _ j y _ _ (hb) (by simpa using h))⟩
                  | 11, _, ho, hf =>
                    obtain rfl := Option.some.inj ho
                    obtain rfl : f = false := hf (.inl (by kernel_rfl))
                    have e92 : y 92 = .agg #[(.slice aW t.W.length cW), .slice (some ⟨gP, 0, none⟩) t.P.length cP, vX] := hd 1 (by kernel_rfl) (by decide)
                    have v10 : false = false → Ints wx (y 101) (toI Q) := hd 10 (by kernel_rfl) (by decide)
                    have hpx := (he3.below (hx.2 rfl)).hp
                    refine rstep_call rfl (f := 64) (args := #[.agg #[(.slice aW t.W.length cW), .slice (some ⟨gP, 0, none⟩) t.P.length cP, vX], y 101]) (w' := wx) ?_ (FDX.out wx (y 101) hpx (v10 rfl)) ?_
                    · simp only [hole, List.foldl_cons, List.foldl_nil, List.setIfInBounds_toArray, List.set_cons_zero, List.set_cons_succ]
                      go_simp
                    · rintro e w'' ⟨rfl, hb⟩
                      exact ⟨_, rfl, hx.grow hb, by rw [FZ.out]; rfl, (fun j _ _ _ h => El22_keep w.heap.size w3.heap.size (w.heap.size + 1 + 1) s i cP gP rc K n ra (Value.slice aR rowl.length cR) (.slice aW t.W.length cW) vX p q Q rowl t.P z _ j y _ _ (hb) (by simpa using h))⟩
                  | 12, _, ho, hf =>
                    obtain rfl := Option.some.inj ho
                    obtain rfl : f = false := hf (.inl (by kernel_rfl))
                    have e102 : y 102 = .int .i64 (z : Nat) := hd 11 (by kernel_rfl) (by decide)
                    have hz : w3.heap.size ≤ wx.heap.size := hx.1.size
                    have hbl := (Below.refl wx.heap.size wx).alloc (Nat.le_refl _) (.cells #[.int .i64 (z : Nat)] 3)
                    refine rstep_value rfl (v := .slice (some ⟨wx.heap.size, 0, none⟩) 1 1) (w' := wx.alloc (.cells #[.int .i64 (z : Nat)] 3)) ?_ ⟨hx.grow hbl, ⟨_, rfl, hz, Held.new _ _ [_]⟩, (fun j _ _ _ h => El22_keep w.heap.size w3.heap.size (w.heap.size + 1 + 1) s i cP gP rc K n ra (Value.slice aR rowl.length cR) (.slice aW t.W.length cW) vX p q Q rowl t.P z _ j y _ _ (hbl) (by simpa using h))⟩
                    · simp only [hole, List.foldl_cons, List.foldl_nil, List.setIfInBounds_toArray, List.set_cons_zero, List.set_cons_succ]
                      go_simp
                  | 13, _, ho, hf =>
                    obtain rfl := Option.some.inj ho
                    obtain rfl : f = false := hf (.inr rfl)
                    have e91 : y 91 = (Value.slice aR rowl.length cR) := hd 0 (by kernel_rfl) (by decide)
                    have v12 : ∃ b, y 103 = .slice (some ⟨b, 0, none⟩) 1 1 ∧ w3.heap.size ≤ b ∧ Held wx b 3 [.int .i64 (z : Nat)] := hd 12 (by kernel_rfl) (by decide)
                    obtain ⟨b14, e103, hb14, hh14⟩ := v12
                    have hz : w3.heap.size ≤ wx.heap.size := hx.1.size
                    have hHw := HB3.out.size
                    have hrw : OwnI 3 w.heap.size wx (Value.slice aR rowl.length cR) (toI rowl) := HRW.out.drew.below (hx.2 rfl)
                    obtain ⟨v', w', hrun, ho', hg', hl'⟩ := run_app1_at (ty := 24) hrw (ad := ⟨b14, 0, none⟩) (c := 1) (hh14.at (i := 0) rfl) (by rw [toI_length]; have := HRL.out; omega) (by omega)
                    have hsm : Sm (fun k => some k ≠ (Value.slice aR rowl.length cR).ownBlock) wx w' := Sm.of_grown hg' (fun k hk e => hk e)
                    refine rstep_value rfl (v := v') (w' := w') ?_ ⟨hx.turn hsm, ⟨by show OwnI 3 _ _ v' _; rw [toI_append]; exact ho', ?_⟩, (fun j _ hj _ h => El22_turn w.heap.size w3.heap.size (w.heap.size + 1 + 1) s i cP gP rc K n ra (Value.slice aR rowl.length cR) (.slice aW t.W.length cW) vX p q Q rowl t.P z hsm HRN.out j y hj h)⟩
                    · simp only [hole, List.foldl_cons, List.foldl_nil, List.setIfInBounds_toArray, List.set_cons_zero, List.set_cons_succ]
                      simp [execOp, resolve, invoke, builtin, Act.eval, e91, e103, Result.andThen]
                      rw [hrun]
                    · rcases hl' with hl' | hl'
                      · exact .inl hl'
                      · exact .inr ⟨_, hl', hz⟩
                  | _ + 14, him, _, _ => exact absurd him (by omega)
                · intro o ho y wx hx hd hini
                  obtain rfl := Option.some.inj ho
                  have e91 : y 91 = (Value.slice aR rowl.length cR) := hd 0 (by decide)
                  have e92 : y 92 = .agg #[(.slice aW t.W.length cW), .slice (some ⟨gP, 0, none⟩) t.P.length cP, vX] := hd 1 (by decide)
                  have e93 : y 93 = .pointer (some ⟨(w.heap.size + 1 + 1), 1, none⟩) := hd 2 (by decide)
                  have e94 : y 94 = .slice (some ⟨gP, 0, none⟩) t.P.length cP := hd 3 (by decide)
                  have e95 : y 95 = .int .i64 (i : Nat) := hd 4 (by decide)
                  have e96 : y 96 = .pointer (some ⟨gP, i, none⟩) := hd 5 (by decide)
                  have e97 : y 97 = .slice ra p.length rc := hd 6 (by decide)
                  have e98 : y 98 = .agg #[.int .u8 (K : Nat), .int .i64 (n : Nat)] := hd 7 (by decide)
                  have e99 : y 99 = .int .i64 (s : Nat) := hd 8 (by decide)
                  have e102 : y 102 = .int .i64 (z : Nat) := hd 11 (by decide)
                  have v12 : ∃ b, y 103 = .slice (some ⟨b, 0, none⟩) 1 1 ∧ w3.heap.size ≤ b ∧ Held wx b 3 [.int .i64 (z : Nat)] := hd 12 (by decide)
                  have v13 : OwnI 3 w.heap.size wx (y 104) (toI (rowl ++ [z])) ∧ ((y 104).ownBlock = (Value.slice aR rowl.length cR).ownBlock ∨ ∃ b, (y 104).ownBlock = some b ∧ w3.heap.size ≤ b) := hd 13 (by decide)
                  clear hd
                  obtain ⟨a104, c104, e104⟩ := v13.1.form
                  refine rstep_value rfl (v := y 104) (w' := wx) ?_ ?_
                  · simp only [hole, List.foldl_cons, List.foldl_nil, List.setIfInBounds_toArray, List.set_cons_zero, List.set_cons_succ]
                    go_simp
                  have hxs := hx.1
                  have he4 := (he3.rgrow (grown_of_sm hxs) (fun k hk => ⟨own_ty HRW.out.drew hk, HRS.out k hk⟩))
                  have hB4 : Below w.heap.size w wx := hxs.belowR HB3.out.drew (fun k hk => (HRW.out.lt k hk).1) HB3.out.size
                  have hn4 : ∀ j, (y 104).ownBlock = some j → ¬ S j := fun j hj h => by
                    rcases v13.2 with h2 | ⟨b, h2, h3⟩
                    · exact HRS.out j (by rw [← h2]; exact hj) h
                    · rw [h2] at hj
                      have h4 := ty_lt (he3.hS j h)
                      have h5 := Option.some.inj hj
                      simp at h4; omega
                  have ho4 := v13.1
                  obtain ⟨v4, hv4⟩ : ∃ v4, y 104 = v4 := ⟨_, rfl⟩
                  rw [hv4] at ho4 hn4
                  have HE4 := Lib.hid he4
                  have HB4 := Lib.hid hB4
                  have HO4 := Lib.hid ho4
                  have HN4 := Lib.hid hn4
                  rw [updO_at_some y _ (y 104) 9 rfl]
                  have u9 : upd y 9 (y 104) 9 = v4 := hv4
                  have u91 : upd y 9 (y 104) 91 = y 91 := rfl
                  have u92 : upd y 9 (y 104) 92 = y 92 := rfl
                  have u93 : upd y 9 (y 104) 93 = y 93 := rfl
                  have u94 : upd y 9 (y 104) 94 = y 94 := rfl
                  have u95 : upd y 9 (y 104) 95 = y 95 := rfl
                  have u96 : upd y 9 (y 104) 96 = y 96 := rfl
                  have u97 : upd y 9 (y 104) 97 = y 97 := rfl
                  have u98 : upd y 9 (y 104) 98 = y 98 := rfl
                  have u99 : upd y 9 (y 104) 99 = y 99 := rfl
                  have u100 : upd y 9 (y 104) 100 = y 100 := rfl
                  have u101 : upd y 9 (y 104) 101 = y 101 := rfl
                  have u102 : upd y 9 (y 104) 102 = y 102 := rfl
                  have u103 : upd y 9 (y 104) 103 = y 103 := rfl
                  have u104 : upd y 9 (y 104) 104 = y 104 := rfl
                  simp only [hole, List.foldl_cons, List.foldl_nil, List.setIfInBounds_toArray, List.set_cons_zero, List.set_cons_succ, u9, u91, u92, u93, u94, u95, u96, u97, u98, u99, u100, u101, u102, u103, u104, e91, e92, e93, e94, e95, e96, e97, e98, e99, e102]
                  clear u9 u91 u92 u93 u94 u95 u96 u97 u98 u99 u100 u101 u102 u103 u104 e91 e92 e93 e94 e95 e96 e97 e98 e99 e102 hini v12 v13 he4 hB4 ho4 hn4 hv4 hx hxs e104
                  go_wp2
                  go_roundw
                  case rel => exact ⟨s + 1, by go_num, HSM.out, HE4.out, by rw [HTK.out]; exact HO4.out, HN4.out, HB4.out⟩
                  case measure => have := HSM.out; simp [intOf]; omega
              · obtain rfl : s = mirs K n := by omega
                have hsmi : ¬ ((mirs K n : Nat) : Int) < ((mirs K n : Nat) : Int) := by omega
                rw [List.take_of_length_le (by rw [rowN_len]; exact Nat.le_refl _)] at hrow
                have hrll : (rowN K n t i).length ≤ 4 := by rw [rowN_len]; exact mirs_le hv
                have HRX := Lib.hid (rows_succ K n t i)
                have hXl : ((List.range i).map (rowN K n t)).length ≤ 120 := by have := HLT.out; have := HN.out; rw [List.length_map, List.length_range]; omega
                obtain ⟨rowl, hrl⟩ : ∃ rowl, rowN K n t i = rowl := ⟨_, rfl⟩
                rw [hrl] at hrow hrll HRX
                obtain ⟨X0, hX0⟩ : ∃ X0, (List.range i).map (rowN K n t) = X0 := ⟨_, rfl⟩
                rw [hX0] at he HRX hXl
                obtain ⟨a6, c6, e6⟩ := hrow.form
                rw [toI_length] at e6
                subst e6
                have HROW := Lib.hid hrow
                have HBQ := Lib.hid hb
                have HE := Lib.hid he
                have HNT := Lib.hid (show some (w.heap.size + 1 + 1) ≠ vX.ownBlock from fun e => by have h1 := he.ht.ty; rw [he.hx.ty e.symm] at h1; exact absurd h1 (by decide))
                have ct := he.ht.at (i := 2) rfl
                have hHH := HBQ.out.size
                have HSI := Lib.hid (show i + 1 ≤ t.W.length by have := HLT.out; omega)
                clear hrow hb he hnS hs hrl hX0 hsm
                go_wp2_with (at_builtin; refine wpList_appF rfl _ _ rfl (fun k => S k ∨ (Value.slice a6 rowl.length c6).ownBlock = some k) w.heap.size wr.heap.size vX (.slice a6 rowl.length c6) X0 rowl rfl ((HE.out.hx.alloc _).mono fun k hk => .inl hk) ((OwnI.fz (HROW.out.alloc _) (by rw [toI_length]; omega) (fun k hk => .inr hk))) rfl (Held.new _ _ [_]) (fun k hk e => by
                    rcases hk with hk | hk
                    · have h1 := HE.out.hS k hk; have h2 := HE.out.hx.ty e; rw [h1] at h2; exact absurd h2 (by decide)
                    · have h1 := own_ty HROW.out hk; have h2 := HE.out.hx.ty e; rw [h1] at h2; exact absurd h2 (by decide)) (by omega) (by simp; omega) ?_; intro v8 w8 hr8 hg8 hl8; have hTx := (HE.out.ht.alloc (.cells #[.slice a6 rowl.length c6] 24)).grown hg8 HNT.out; have ct8 := hTx.at (i := 2) rfl; have cf8 := hTx.free 2; have HR8 := Lib.hid hr8; have HG8 := Lib.hid hg8; have HL8 := Lib.hid hl8; have hf8 := hr8.form; clear hr8 hg8 hl8 hTx; obtain ⟨a8, c8, rfl⟩ := hf8)
                have hS' : ∀ j, (S j ∨ (Value.slice a6 rowl.length c6).ownBlock = some j) → typeAt w8 j = some 3 := fun j hj => by
                  have h1 : typeAt (wr.alloc (.cells #[.slice a6 rowl.length c6] 24)) j = some 3 := by
                    rcases hj with hj | hj
                    · exact (HE.out.alloc _).hS j hj
                    · exact own_ty (World.ownsRow.alloc HROW.out _) hj
                  have hsm8 := Sm.of_grown (S := fun j => some j ≠ vX.ownBlock) HG8.out fun _ hk => hk
                  rw [ty_block (hsm8.block j (fun e => by have h2 := (HE.out.alloc (.cells #[.slice a6 rowl.length c6] 24)).hx.ty e.symm; rw [h1] at h2; exact absurd h2 (by decide)) (ty_lt h1))]; exact h1
                have he8 := (HE.out.alloc (.cells #[.slice a6 rowl.length c6] 24)).rowed (S' := fun j => S j ∨ (Value.slice a6 rowl.length c6).ownBlock = some j) (fun j hj => .inl hj) HR8.out HG8.out hS' (HL8.out.imp id fun h => ⟨_, h, Nat.le_refl _⟩)
                have hlen8 : (X0 ++ [rowl]).length = X0.length + 1 := by simp
                rw [hlen8] at he8
                have hB8 : Below w.heap.size w w8 := (HBQ.out.alloc hHH _).grown HG8.out (by simp; omega) (fun j hj => by obtain ⟨vs, ho, _⟩ := HE.out.hx; have := (World.ownsRow.lt ho j hj).1; omega)
                go_roundw
                case rel => exact ⟨i + 1, _, _, by go_num, HSI.out, by rw [HRX.out]; exact he8, hB8.setCell (by simp; omega) _⟩
                case measure => have := HSI.out; simp [intOf]; omega
          · obtain rfl : i = t.W.length := by omega
            have hlti : ¬ ((t.W.length : Nat) : Int) < (t.W.length : Int) := by omega
            obtain ⟨l, hl, h3⟩ := he.hr
            obtain ⟨aX, cX, e6⟩ := he.hx.form
            rw [List.length_map, List.length_range] at e6
            subst e6
            have k0 := he.ht.at (i := 0) rfl
            have k1 := he.ht.at (i := 1) rfl
            have k2 := he.ht.at (i := 2) rfl
            have HE := Lib.hid he
            have HB := Lib.hid hb
            have HL := Lib.hid hl
            clear he hb hl
            go_wp2_with ((with_reducible refine is_store 36 ?_); refine wpl_store_rt (by rfl) _ _ (by rfl) (w.heap.size + 1) (.slice aW t.W.length cW) (.slice aP t.P.length cP) (.slice aX t.W.length cX) l h3 (by rfl) (by rfl) (by rfl) (by rfl) (by rfl) (by exact HL.out) ?_; intro W9 hW9 hsm9 hsz9)
            exact bodyPost_ret (results_rtable 2 Try.results21 (by rfl) hW9 rfl) rfl ⟨_, rfl, HRT.out _ _ _ _ _ _ _ _ _ HE.out _ hsm9, hsm9.below HB.out (by omega) HB.out.size⟩
end Go.Proofs.Ytmlhecfhhhebnaa
