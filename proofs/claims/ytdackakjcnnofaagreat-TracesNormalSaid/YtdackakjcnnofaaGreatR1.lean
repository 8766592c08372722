/- Zb Zt Zf Ze Zo Zp Zk Zl Zg of the seat's texts, in this order. -/
import Derived.Test.YtdackakjcnnofaaGreatA3
import Derived.Test.YtdackakjcnnofaaGreatA2
import Derived.Deep.Cut

/- The reference's before. -/
namespace Go.Proofs.YtdackakjcnnofaaGreat
open Go.RowKit

theorem pre_lt {a b : Int} (h : a ≠ b) (r s : List Int) : ∀ p : List Int, p ++ a :: r < p ++ b :: s ↔ a < b
  | [] => by
    rw [List.nil_append, List.nil_append, List.cons_lt_cons_iff]
    exact ⟨fun h1 => h1.elim id fun h2 => absurd h2.1 h, Or.inl⟩
  | c :: p => by
    rw [List.cons_append, List.cons_append, List.cons_lt_cons_iff, pre_lt h r s p]
    exact ⟨fun h1 => h1.elim (fun h2 => absurd h2 (by omega)) And.right, fun h1 => Or.inr ⟨rfl, h1⟩⟩
theorem split_at {xs : List Int} {k : Nat} (h : k < xs.length) : xs = xs.take k ++ xs[k] :: xs.drop (k + 1) := by
  rw [List.getElem_cons_drop, List.take_append_drop]
theorem lt_at {xs ys : List Int} {k : Nat} (h1 : k < xs.length) (h2 : k < ys.length) (ht : xs.take k = ys.take k) (hne : xs[k] ≠ ys[k]) : decide (xs < ys) = decide (xs[k] < ys[k]) := by
  refine decide_eq_decide.2 ?_
  have h := pre_lt hne (xs.drop (k + 1)) (ys.drop (k + 1)) (xs.take k)
  rw [← split_at h1, ht, ← split_at h2] at h
  exact h
theorem take_step {xs ys : List Int} {k : Nat} (h1 : k < xs.length) (h2 : k < ys.length) (h : xs[k] = ys[k]) (ht : xs.take k = ys.take k) : xs.take (k + 1) = ys.take (k + 1) := by
  rw [List.take_succ_eq_append_getElem h1, List.take_succ_eq_append_getElem h2, h, ht]
theorem lt_end {xs ys : List Int} {k : Nat} (h1 : xs.length ≤ k) (h2 : ys.length ≤ k) (ht : xs.take k = ys.take k) : decide (xs < ys) = false := by
  rw [List.take_of_length_le h1, List.take_of_length_le h2] at ht
  rw [ht, decide_eq_false_iff_not]
  exact List.lt_irrefl ys

set_option maxHeartbeats 400000 in
theorem before_any (v1 v2 : Value) (xs ys : List Int) (w : World) (h1 : Ints w v1 xs) (h2 : Ints w v2 ys) (hl : xs.length = ys.length) :
    Calls Tryz.prog 88 #[v1, v2] w fun e w' => e = .returned (.bool (decide (xs < ys))) ∧ w = w' := by
  obtain ⟨a, c, rfl, hl1, _, hc1⟩ := h1
  obtain ⟨a', c', rfl, hl2, _, hc2⟩ := h2
  have HL := Lib.hid hl; clear hl
  have hle : xs.length ≤ ys.length := by have := HL.out; omega
  have hge : ys.length ≤ xs.length := by have := HL.out; omega
  have H1 := Lib.hid hc1
  have H2 := Lib.hid hc2
  clear hc1 hc2
  go_enter Tryz.func88, Tryz.ntmps88
  go_wp2
  go_loop [9] (fun ix => ∃ k : Nat, k ≤ xs.length ∧ ix = .int .i64 k ∧ xs.take k = ys.take k) (fun i => xs.length - (intOf i).toNat)
  case atStart => exact ⟨0, Nat.zero_le _, rfl, rfl⟩
  case round =>
    obtain ⟨k, hk, rfl, ht⟩ := hrel
    have HT := Lib.hid ht; clear ht
    by_cases hlt : k < xs.length
    · have hlt2 : k < ys.length := by omega
      obtain ⟨b, off, rfl, hbl, hcell⟩ := H1.out (ne_nil_of_lt hlt)
      obtain ⟨b2, off2, rfl, hbl2, hcell2⟩ := H2.out (ne_nil_of_lt hlt2)
      have hcx := hcell k hlt
      have hcy := hcell2 k hlt2
      clear hcell hcell2
      by_cases hxy : xs[k] = ys[k]
      · have HXY := Lib.hid hxy
        have hne : (xs[k] != ys[k]) = false := by rw [hxy]; simp
        clear hxy
        go_wp2
        go_round
        case rel => exact ⟨k + 1, by omega, by go_num, take_step hlt hlt2 HXY.out HT.out⟩
        case measure => simp [intOf]; omega
      · have HXY := Lib.hid (lt_at hlt hlt2 HT.out hxy)
        have hne : (xs[k] != ys[k]) = true := by simpa using hxy
        clear hxy
        go_wp2
        go_ret
        exact ⟨ret_bool HXY.out.symm, rfl⟩
    · have HE := Lib.hid (lt_end (k := k) (by omega) (by omega) HT.out)
      go_wp2
      go_ret
      exact ⟨ret_bool HE.out.symm, rfl⟩
end Go.Proofs.YtdackakjcnnofaaGreat

/- The reference's times. -/
namespace Go.Proofs.YtdackakjcnnofaaGreat
open Go.RowKit

theorem map_take_succ {α β : Type} (f : α → β) (l : List α) (k : Nat) (h : k < l.length) : (l.take (k + 1)).map f = (l.take k).map f ++ [f l[k]] := by
  rw [List.take_succ_eq_append_getElem h, List.map_append]; rfl
theorem getDN {l : List Nat} {i : Nat} (h : i < l.length) : l.getD i 0 = l[i] := by simp [List.getD, List.getElem?_eq_getElem h]

set_option maxRecDepth 20000 in
set_option maxHeartbeats 1000000 in
theorem times_any (va vs : Value) (a s : List Nat) (w : World) (ha : Ints w va (toI a)) (hs : Ints w vs (toI s)) (hlt : ∀ x ∈ s, x < a.length) (hl : s.length ≤ 1000) :
    Calls Tryz.prog 85 #[va, vs] w fun e w' => ∃ v, e = .returned v ∧ OwnI 3 w.heap.size w' v (toI (mulP a s)) ∧ Below w.heap.size w w' := by
  obtain ⟨aa, ca, rfl, hlena, hcla, hca⟩ := ha.openN
  obtain ⟨sa, cs, rfl, hlens, hcls, hcs⟩ := hs.openN
  have HA := Lib.hid hca
  have HS := Lib.hid hcs
  have HL := Lib.hid hlt
  clear ha hs hca hcs hlt
  go_enter Tryz.func85, Tryz.ntmps85
  go_wp2
  go_loopw [5, 10] (fun o ix wr => ∃ k : Nat, k ≤ s.length ∧ ix = .int .i64 k ∧ OwnI 3 w.heap.size wr o (toI (mulP a (s.take k))) ∧ Below w.heap.size w wr) (fun _ i _ => s.length - (intOf i).toNat)
  case atStart => exact ⟨0, Nat.zero_le _, rfl, OwnI.nil _ _ _, Below.refl _ _⟩
  case round =>
    obtain ⟨k, hk, rfl, ho, hb⟩ := hrel
    by_cases hlt : k < s.length
    · obtain ⟨b, off, rfl, hbl, hcell⟩ := HS.out (ne_nil_of_lt hlt)
      have hcx := (hb.cell (p := ⟨b, off + k, none⟩) hbl).trans (hcell k hlt)
      have hxa := HL.out _ (List.getElem_mem hlt)
      have HM := Lib.hid (map_take_succ (fun x => a.getD x 0) s k hlt)
      obtain ⟨x, hx⟩ : ∃ x, s[k] = x := ⟨_, rfl⟩
      rw [hx] at hcx hxa HM
      obtain ⟨b2, off2, rfl, hbl2, hcell2⟩ := HA.out (ne_nil_of_lt hxa)
      have hcy := (hb.cell (p := ⟨b2, off2 + x, none⟩) hbl2).trans (hcell2 x hxa)
      have HG := Lib.hid (getDN hxa)
      obtain ⟨y, hy⟩ : ∃ y, a[x]'hxa = y := ⟨_, rfl⟩
      rw [hy] at hcy HG
      have hle := hb.size
      have hki : (k : Int) < (s.length : Int) := by omega
      have hxi : (x : Int) < (a.length : Int) := by omega
      have hlk : (mulP a (s.take k)).length ≤ 1000 := by unfold mulP; rw [List.length_map, List.length_take]; omega
      clear hx hy hcell hcell2
      go_wp2_with (at_builtin; refine wpList_app1_at rfl _ _ rfl w.heap.size _ (toI (mulP a (s.take k))) ((y : Nat) : Int) rfl (ho.alloc _) ⟨_, 0, none⟩ 1 rfl (cell_new1 _ _ _) (by rw [toI_length]; omega) (by simp; omega) ?_; intro v4 w4 ho4 hg4 hl4; have HO4 := Lib.hid ho4; have HG4 := Lib.hid hg4; clear ho4 hg4 hl4)
      refine ⟨⟨k + 1, by omega, by push_cast; rfl, by unfold mulP; rw [HM.out, toI_append, HG.out]; exact HO4.out, (hb.alloc hle _).grown HG4.out (by simp; omega) (fun j hj => (ho.lt j hj).1)⟩, by simp [intOf]; omega⟩
    · obtain rfl : k = s.length := by omega
      rw [List.take_length] at ho
      go_wp2
      go_ret
      exact ⟨_, rfl, ho, hb⟩
end Go.Proofs.YtdackakjcnnofaaGreat

/- The reference's Find. -/
namespace Go.Proofs.YtdackakjcnnofaaGreat
open Go.RowKit

def findZ (L : List (List Nat)) (p : List Nat) : Int := if p ∈ L then (L.idxOf p : Int) else -1
theorem findZ_at {L : List (List Nat)} {p : List Nat} {k : Nat} (hk : k < L.length) (he : p = L[k]) (hb : ∀ i, (hi : i < L.length) → i < k → p ≠ L[i]) : findZ L p = (k : Int) := by
  have hm : p ∈ L := by rw [he]; exact List.getElem_mem hk
  have h1 : L.idxOf p < L.length := List.idxOf_lt_length_of_mem hm
  have h2 : L[L.idxOf p] = p := List.getElem_idxOf h1
  have h3 : ¬ L.idxOf p < k := fun h => hb _ h1 h h2.symm
  have h4 : ¬ k < L.idxOf p := fun h => by
    have := List.not_of_lt_findIdx h
    simp [he] at this
  unfold findZ
  rw [if_pos hm]
  omega
theorem findZ_no {L : List (List Nat)} {p : List Nat} (hb : ∀ i, (hi : i < L.length) → p ≠ L[i]) : findZ L p = -1 := by
  unfold findZ
  rw [if_neg]
  intro hm
  obtain ⟨i, hi, e⟩ := List.getElem_of_mem hm
  exact hb i hi e.symm
theorem toI_eq {p q : List Nat} (h : toI p = toI q) : p = q := by
  unfold toI at h
  exact (List.map_inj_right (fun a b e => by omega)).1 h

set_option maxRecDepth 20000 in
set_option maxHeartbeats 1000000 in
theorem Find_any {S : Nat → Prop} {B : Nat} (vl vp : Value) (L : List (List Nat)) (p : List Nat) (w : World) (hL : RowsF S B w vl L) (hp : Ints w vp (toI p)) (hlen : ∀ q ∈ L, q.length = p.length) (hLn : L.length ≤ 10000) :
    Calls Tryz.prog 84 #[vl, vp] w fun e w' => e = .returned (.int .i64 (findZ L p)) ∧ w = w' := by
  obtain ⟨aP, cP, e⟩ := hL.form
  subst e
  have HP := Lib.hid hL
  have HQ := Lib.hid hp
  clear hL hp
  go_enter Tryz.func84, Tryz.ntmps84
  go_wp2
  go_loop [9] (fun ix => ∃ k : Nat, k ≤ L.length ∧ ix = .int .i64 k ∧ ∀ i, (hi : i < L.length) → i < k → p ≠ L[i]) (fun i => L.length - (intOf i).toNat)
  case atStart => exact ⟨0, Nat.zero_le _, rfl, fun i _ h => by omega⟩
  case round =>
    obtain ⟨k, hk, rfl, hbef⟩ := hrel
    have HBF := Lib.hid hbef
    clear hbef
    by_cases hlt : k < L.length
    · obtain ⟨g, cap, u, e, hgB, hgs, hcx, hin⟩ := HP.out.at k hlt
      obtain ⟨rfl, _, rfl⟩ := Value.slice.inj e
      have hlq : (toI p).length = (toI L[k]).length := by rw [toI_length, toI_length, hlen _ (List.getElem_mem hlt)]
      have C1 := before_any vp u (toI p) (toI L[k]) w HQ.out hin.ints hlq
      have C2 := before_any u vp (toI L[k]) (toI p) w hin.ints HQ.out hlq.symm
      have hki : (k : Int) < (L.length : Int) := by omega
      clear e hin
      by_cases he : p = L[k]
      · have HF := Lib.hid (findZ_at hlt he HBF.out)
        have hd : decide (toI p < toI L[k]) = false := by rw [decide_eq_false_iff_not, ← he]; exact List.lt_irrefl _
        have hd2 : decide (toI L[k] < toI p) = false := by rw [decide_eq_false_iff_not, ← he]; exact List.lt_irrefl _
        rw [hd] at C1
        rw [hd2] at C2
        have D1 := Lib.hid C1
        have D2 := Lib.hid C2
        clear hd hd2 he C1 C2
        go_wp2_with (go_at_call 88; first | (refine D1.out.mono ?_; rintro e w3 ⟨rfl, rfl⟩; clear D1) | (refine D2.out.mono ?_; rintro e w3 ⟨rfl, rfl⟩))
        go_ret
        exact ⟨ret_int HF.out.symm, rfl⟩
      · have HNE := Lib.hid he
        have hrel : ∀ i, (hi : i < L.length) → i < k + 1 → p ≠ L[i] := fun i hi hik => by
          by_cases e : i = k
          · subst e; exact HNE.out
          · exact HBF.out i hi (by omega)
        have HR := Lib.hid hrel
        clear hrel
        by_cases hd : toI p < toI L[k]
        · rw [decide_eq_true hd] at C1
          have D1 := Lib.hid C1
          clear hd C1 C2 he
          go_wp2_with (go_at_call 88; refine D1.out.mono ?_; rintro e w3 ⟨rfl, rfl⟩)
          go_round
          case rel => exact ⟨k + 1, hlt, by go_num, HR.out⟩
          case measure => clear HR; simp [intOf]; omega
        · have hd2 : toI L[k] < toI p := by
            rcases List.le_total (toI p) (toI L[k]) with h | h
            · rcases List.le_iff_lt_or_eq.1 h with h | h
              · exact absurd h hd
              · exact absurd (toI_eq h) he
            · rcases List.le_iff_lt_or_eq.1 h with h | h
              · exact h
              · exact absurd (toI_eq h.symm) he
          rw [decide_eq_false hd] at C1
          rw [decide_eq_true hd2] at C2
          have D1 := Lib.hid C1
          have D2 := Lib.hid C2
          clear hd hd2 C1 C2 he
          go_wp2_with (go_at_call 88; first | (refine D1.out.mono ?_; rintro e w3 ⟨rfl, rfl⟩; clear D1) | (refine D2.out.mono ?_; rintro e w3 ⟨rfl, rfl⟩))
          go_round
          case rel => exact ⟨k + 1, hlt, by go_num, HR.out⟩
          case measure => clear HR; simp [intOf]; omega
    · obtain rfl : k = L.length := by omega
      have HF := Lib.hid (findZ_no fun i hi => HBF.out i hi hi)
      have hki : ¬ ((L.length : Nat) : Int) < (L.length : Int) := by omega
      go_wp2
      go_ret
      exact ⟨ret_int HF.out.symm, rfl⟩
end Go.Proofs.YtdackakjcnnofaaGreat

/- The reference's Elements. -/
namespace Go.Proofs.YtdackakjcnnofaaGreat
open Go.RowKit
attribute [local go_sem] Oper.semAt_some

theorem rows_single {S : Nat → Prop} {B : Nat} {w : World} {u : Value} {l : List Nat} (hu : Fz S w u (toI l)) (hB : B ≤ w.heap.size) : RowsF S B (w.alloc (.cells #[u] 27)) (.slice (some ⟨w.heap.size, 0, none⟩) 1 1) [l] := by
  refine ⟨[u], ⟨by simp, .inr ⟨w.heap.size, 1, #[u], by simp, hB, heap_alloc_new w _, by simp, by unfold maxLen; omega, by simp, by simp⟩⟩, fun i x y h1 h2 => ?_⟩
  cases i with
  | zero => simp at h1 h2; subst h1; subst h2; exact hu.kept (Sm.of_below ((Below.refl _ _).alloc (Nat.le_refl _) _))
  | succ n => simp at h1
theorem toI_lt {a b : List Nat} : toI a < toI b ↔ a < b := by
  induction a generalizing b with
  | nil => cases b <;> simp [toI]
  | cons x a ih => cases b with
    | nil => simp [toI]
    | cons y b =>
      have e1 : toI (x :: a) = (x : Int) :: toI a := rfl
      have e2 : toI (y :: b) = (y : Int) :: toI b := rfl
      rw [e1, e2, List.cons_lt_cons_iff, List.cons_lt_cons_iff, ih]
      constructor
      · rintro (h | ⟨h1, h2⟩)
        · exact .inl (by omega)
        · exact .inr ⟨by omega, h2⟩
      · rintro (h | ⟨h1, h2⟩)
        · exact .inl (by omega)
        · exact .inr ⟨by omega, h2⟩
/-- What Elements returns. -/
def ElOut (d : Nat) (gens : List (List Nat)) (w : World) (e : Ending) (w' : World) : Prop :=
  (Over d gens ∧ e = .returned (.tuple #[.slice none 0 0, .int .i64 6]) ∧ Below w.heap.size w w') ∨
  ∃ E v', IsG d gens E ∧ e = .returned (.tuple #[v', .int .i64 0]) ∧ RowsF (fun k => w.heap.size ≤ k) w.heap.size w' v' E ∧ Below w.heap.size w w'
theorem findZ_neg {L : List (List Nat)} {p : List Nat} (h : p ∉ L) : findZ L p = -1 := by unfold findZ; rw [if_neg h]
theorem findZ_pos {L : List (List Nat)} {p : List Nat} (h : p ∈ L) : ∃ k : Nat, findZ L p = (k : Int) ∧ k < L.length := ⟨L.idxOf p, by unfold findZ; rw [if_pos h], List.idxOf_lt_length_of_mem h⟩
def LtTo (ls : List (List Nat)) (y : List Nat) (k : Nat) : Prop := ∀ j (h : j < ls.length), j < k → ls[j] < y
theorem map_getElem' {α β : Type} (f : α → β) (l : List α) (k : Nat) (h : k < (l.map f).length) : (l.map f)[k] = f (l[k]'(by simpa using h)) := by simp
theorem range_snoc (k : Nat) : toI (List.range k) ++ [(k : Int)] = toI (List.range (k + 1)) := by simp [toI, List.range_succ]

set_option maxRecDepth 100000 in
set_option maxHeartbeats 2000000 in
theorem Elements_any (v : Value) (gens : List (List Nat)) (d : Nat) (w : World) (h : Args w v (gens.map toI)) (hp : ∀ p ∈ gens, Perm1 d p) (h1 : 1 ≤ gens.length) (h4 : gens.length ≤ 4) (hd1 : 1 ≤ d) (hd5 : d ≤ 5) :
    Calls Tryz.prog 83 #[v] w (ElOut d gens w) := by
  have HA := Lib.hid h
  have HP := Lib.hid hp
  have e0 := h.form
  rw [List.length_map] at e0
  obtain ⟨a, c, rfl⟩ := e0
  obtain ⟨b, off, c', u0, e0, hb, hc0, hu0⟩ := h.at 0 (by rw [List.length_map]; omega)
  obtain ⟨rfl, -, rfl⟩ := Value.slice.inj e0
  rw [map_getElem'] at hu0
  obtain ⟨a5, c5, rfl, -, -, -⟩ := hu0
  rw [toI_length, (hp _ (List.getElem_mem (by omega))).len, Nat.add_zero] at hc0
  have HF := Lib.hid (fun l k g (h : GrowI (fun p x => mulP x p) d gens k g l) => grow_few h hp hd5)
  have hgi : (0 : Int) < (gens.length : Int) := by omega
  have hgn : 0 < gens.length := h1
  clear h hp e0
  go_enter Tryz.func83, Tryz.ntmps83
  go_wp2
  go_loopw [4, 19] (fun o ix wr => ∃ k : Nat, k ≤ d ∧ ix = .int .i64 k ∧ OwnI 3 w.heap.size wr o (toI (List.range k)) ∧ Below w.heap.size w wr) (fun _ ix _ => d - (intOf ix).toNat)
  case atStart => exact ⟨0, Nat.zero_le _, rfl, OwnI.nil _ _ _, Below.refl _ _⟩
  case round =>
    obtain ⟨k, hk, rfl, ho, hb1⟩ := hrel
    have HO := Lib.hid ho
    have HB := Lib.hid hb1
    have hzr := hb1.size
    clear ho hb1
    by_cases hlt : k < d
    · have hki : (k : Int) < (d : Int) := by omega
      have ho := HO.out
      have hlk : (toI (List.range k)).length = k := by rw [toI_length, List.length_range]
      have HLK := Lib.hid hlk
      clear hlk
      go_wp2_with (at_builtin; refine wpList_app1_at rfl _ _ rfl w.heap.size _ (toI (List.range k)) (k : Int) rfl (ho.alloc _) ⟨_, 0, none⟩ 1 rfl (cell_new1 _ _ _) (by rw [HLK.out]; omega) (by simp; omega) ?_; intro v4 w4 ho4 hg4 hl4; have HO4 := Lib.hid ho4; have HG4 := Lib.hid hg4; clear ho4 hg4 hl4)
      go_roundw
      case rel => exact ⟨k + 1, hlt, by go_num, by rw [← range_snoc]; exact HO4.out, (HB.out.alloc hzr _).grown HG4.out (by simp; omega) (fun j hj => (HO.out.lt j hj).1)⟩
      case measure => simp [intOf]; omega
    · obtain rfl : k = d := by omega
      have hki : ¬ (k : Int) < (k : Int) := by omega
      obtain ⟨ao, no, co, rfl⟩ := own_form HO.out
      have HONE := Lib.hid (show oneP k = List.range k from rfl)
      have HG0 := Lib.hid (show GrowR w.heap.size (wr.alloc (.cells #[.slice ao no co] 27)) (.slice (some ⟨wr.heap.size, 0, none⟩) 1 1) [oneP k] (fun j => (Value.slice ao no co).ownBlock = some j) from
        ⟨rows_single (OwnI.fz HO.out (by simp [toI, oneP]; omega) fun j hj => hj) hzr, fun j hj => ⟨by have := (HO.out.lt j hj).2; simp; omega, fun e => by have := (HO.out.lt j hj).2; simp [Value.ownBlock] at e; omega⟩⟩)
      have HB0 := Lib.hid (HB.out.alloc hzr (.cells #[.slice ao no co] 27))
      have HLO := Lib.hid (fun j (hj : (Value.slice ao no co).ownBlock = some j) => (HO.out.lt j hj).1)
      clear HO
      go_wp2
      go_loopw [6, 7] (fun vl ix wq => ∃ (k2 : Nat) (l : List (List Nat)) (S : Nat → Prop), ix = .int .i64 k2 ∧ GrowI (fun p x => mulP x p) k gens k2 0 l ∧ GrowR w.heap.size wq vl l S ∧ (∀ j, S j → w.heap.size ≤ j) ∧ Below w.heap.size w wq) (fun _ ix _ => 4000 - (intOf ix).toNat)
      case atStart => exact ⟨0, _, _, rfl, grow_start _ _ _, HG0.out, HLO.out, HB0.out⟩
      case round =>
        obtain ⟨k2, l, S, rfl, hgr, hrw, hlo, hbq⟩ := hrel
        have HLO := Lib.hid hlo
        have HGR := Lib.hid hgr
        have HRW := Lib.hid hrw
        have HBQ := Lib.hid hbq
        have hl3 := HF.out _ _ _ hgr
        have hkl := hgr.le
        obtain ⟨al, cl, rfl⟩ := hrw.1.form
        clear hgr hrw hbq hlo
        by_cases hlt2 : k2 < l.length
        · have hki2 : (k2 : Int) < (l.length : Int) := by omega
          have hml := HGR.out.gen
          have HX := Lib.hid (List.getElem?_eq_getElem hlt2)
          have HXP := Lib.hid (gen_perm HP.out (hml _ (List.getElem_mem hlt2)))
          clear hml
          obtain ⟨x, hx⟩ : ∃ x, l[k2] = x := ⟨_, rfl⟩
          rw [hx] at HX HXP
          clear hx
          go_wp2
          go_loopw [6, 37] (fun vl ix wq2 => ∃ (g : Nat) (l2 : List (List Nat)) (S2 : Nat → Prop), g ≤ gens.length ∧ ix = .int .i64 g ∧ GrowI (fun p x => mulP x p) k gens k2 g l2 ∧ l2[k2]? = some x ∧ GrowR w.heap.size wq2 vl l2 S2 ∧ (∀ j, S2 j → w.heap.size ≤ j) ∧ Below w.heap.size w wq2) (fun _ ix _ => gens.length - (intOf ix).toNat)
          case atStart => exact ⟨0, l, S, Nat.zero_le _, rfl, HGR.out, HX.out, HRW.out, HLO.out, HBQ.out⟩
          case round =>
            obtain ⟨g, l2, S2, hg, rfl, hgr2, hx2, hrw2, hlo2, hbq2⟩ := hrel
            have HLO2 := Lib.hid hlo2
            have HGR2 := Lib.hid hgr2
            have HRW2 := Lib.hid hrw2
            have HBQ2 := Lib.hid hbq2
            have HX2 := Lib.hid hx2
            have hl32 := HF.out _ _ _ hgr2
            obtain ⟨al2, cl2, rfl⟩ := hrw2.1.form
            have hk2l := (List.getElem?_eq_some_iff.1 hx2).1
            have hle := hbq2.size
            clear hgr2 hrw2 hbq2 hlo2
            by_cases hgl : g < gens.length
            · have hgi2 : (g : Int) < (gens.length : Int) := by omega
              have hki3 : (k2 : Int) < (l2.length : Int) := by omega
              obtain ⟨b2, off2, c2, u, e2, hb2, hcu, hu⟩ := (HA.out.below HBQ2.out).at g (by rw [List.length_map]; exact hgl)
              have hbo : b2 = b ∧ off2 = off := by
                have := (Value.slice.inj e2).1
                simpa [eq_comm] using this
              obtain ⟨rfl, rfl⟩ := hbo
              rw [map_getElem'] at hu
              have HGE := Lib.hid (List.getElem?_eq_getElem hgl)
              have HPP := Lib.hid (HP.out _ (List.getElem_mem hgl))
              have HMG := Lib.hid (List.getElem_mem hgl)
              obtain ⟨p, hpe⟩ : ∃ p, gens[g] = p := ⟨_, rfl⟩
              rw [hpe] at hu HGE HPP HMG
              obtain ⟨gr, capr, ur, er, _, hgs, hcr, hur⟩ := HRW2.out.1.at k2 hk2l
              obtain ⟨rfl, -, rfl⟩ := Value.slice.inj er
              have hxe : l2[k2] = x := by rw [List.getElem?_eq_getElem hk2l] at hx2; exact Option.some.inj hx2
              rw [hxe] at hur
              have TM := Lib.hid (times_any ur u x p wr hur.ints hu (fun y hy => by rw [HXP.out.len]; exact HPP.out.lt y hy) (by rw [HPP.out.len]; omega))
              have HLEN := Lib.hid (show ∀ q ∈ l2, q.length = (mulP x p).length from fun q hq => by rw [mulP_len, HPP.out.len]; exact (gen_perm HP.out (HGR2.out.gen q hq)).len)
              have HML := Lib.hid (show (mulP x p).length ≤ 1000000 by rw [mulP_len, HPP.out.len]; omega)
              obtain ⟨au, cu, rfl, -, -, -⟩ := hu
              obtain ⟨av, cv, rfl, -, -, -⟩ := hur
              clear hpe hxe hx2 e2 er
              by_cases hin : mulP x p ∈ l2
              · obtain ⟨m, hm, hml⟩ := findZ_pos hin
                have HM := Lib.hid hm
                have HNX := Lib.hid (grow_known HGR2.out HX2.out HGE.out hin)
                have hm0 : ¬ (m : Int) < 0 := by omega
                clear hin hm
                go_wp2_with (first
                  | (go_at_call 85; refine TM.out.mono ?_; rintro e w3 ⟨v3, rfl, ho3, hb3⟩; obtain ⟨a3, n3, c3, rfl⟩ := own_form ho3; have HG3 := Lib.hid (HRW2.out.grow hb3 ho3 HML.out); have HB3 := Lib.hid (HBQ2.out.trans (hb3.mono hle)); have HLO3 := Lib.hid (show ∀ j, (S2 j ∨ (Value.slice a3 n3 c3).ownBlock = some j) → w.heap.size ≤ j from fun j hj => hj.elim (HLO2.out j) (fun e => Nat.le_trans hle (World.ownsRow.lt ho3 j e).1)); clear ho3 hb3)
                  | (go_at_call 84; refine (Find_any _ _ l2 (mulP x p) w3 HG3.out.1.1 HG3.out.2.ints HLEN.out (by omega)).mono ?_; rintro e w4 ⟨rfl, rfl⟩; rw [HM.out]))
                go_roundw
                case rel => exact ⟨g + 1, l2, _, hgl, by go_num, HNX.out, HX2.out, HG3.out.1, HLO3.out, HB3.out⟩
                case measure => simp [intOf]; omega
              · have HM := Lib.hid (findZ_neg hin)
                have HNX := Lib.hid (grow_new HGR2.out HX2.out HGE.out hin (gen_right HP.out HMG.out (HGR2.out.gen x (List.mem_of_getElem? HX2.out))))
                have HX4 := Lib.hid (show (l2 ++ [mulP x p])[k2]? = some x by rw [List.getElem?_append_left hk2l]; exact HX2.out)
                clear hin
                go_wp2_with (first
                  | (go_at_call 85; refine TM.out.mono ?_; rintro e w3 ⟨v3, rfl, ho3, hb3⟩; obtain ⟨a3, n3, c3, rfl⟩ := own_form ho3; have HG3 := Lib.hid (HRW2.out.grow hb3 ho3 HML.out); have HB3 := Lib.hid (HBQ2.out.trans (hb3.mono hle)); have HLO3 := Lib.hid (show ∀ j, (S2 j ∨ (Value.slice a3 n3 c3).ownBlock = some j) → w.heap.size ≤ j from fun j hj => hj.elim (HLO2.out j) (fun e => Nat.le_trans hle (World.ownsRow.lt ho3 j e).1)); have hle3 := HB3.out.size; clear ho3 hb3)
                  | (go_at_call 84; refine (Find_any _ _ l2 (mulP x p) w3 HG3.out.1.1 HG3.out.2.ints HLEN.out (by omega)).mono ?_; rintro e w4 ⟨rfl, rfl⟩; rw [HM.out])
                  | (at_builtin; refine wpList_appF rfl _ _ rfl (fun j => S2 j ∨ (Value.slice a3 n3 c3).ownBlock = some j) w.heap.size w3.heap.size _ (.slice a3 n3 c3) l2 (mulP x p) rfl (HG3.out.1.1.alloc _) (HG3.out.2.kept (Sm.of_below ((Below.refl _ _).alloc (Nat.le_refl _) _))) rfl (Held.new _ _ [_]) (fun j hj => (HG3.out.1.2 j hj).2) (by omega) (by simp; omega) ?_; intro v5 w5 hr5 hg5 ho5; have HG5 := Lib.hid (GrowR.app (b := 0) HG3.out.1 ((Below.refl _ _).alloc (Nat.le_refl _) _) hr5 hg5 ho5 rfl); have HB5 := Lib.hid ((HB3.out.alloc hle3 _).grown hg5 (by simp; omega) (fun j hj => (HG3.out.1.1.own j hj).1)); clear hr5 hg5 ho5))
                go_roundw
                case rel => exact ⟨g + 1, _, _, hgl, by go_num, HNX.out, HX4.out, HG5.out, HLO3.out, HB5.out⟩
                case measure => simp [intOf]; omega
            · have hgi2 : ¬ (g : Int) < (gens.length : Int) := by omega
              have HNX := Lib.hid (grow_next HGR2.out hk2l (by omega))
              go_wp2
              go_roundw
              case rel => exact ⟨k2 + 1, l2, S2, by go_num, HNX.out, HRW2.out, HLO2.out, HBQ2.out⟩
              case measure => simp [intOf]; omega
        · obtain rfl : k2 = l.length := by omega
          have hki2 : ¬ (l.length : Int) < (l.length : Int) := by omega
          by_cases h24 : 24 < l.length
          · have h24i : (24 : Int) < (l.length : Int) := by omega
            have HOV := Lib.hid (Over.of_grow HGR.out h24)
            go_wp2
            go_ret2
            exact .inl ⟨HOV.out, rfl, HBQ.out⟩
          · have h24i : ¬ (24 : Int) < (l.length : Int) := by omega
            have HE := Lib.hid (IsG.of_right HP.out HGR.out (by omega))
            have HLL := Lib.hid (show ∀ q ∈ l, q.length = k from fun q hq => (gen_perm HP.out (HGR.out.gen q hq)).len)
            have HND := Lib.hid HGR.out.nodup
            clear HF HONE HG0 HB0 HB
            go_wp2
            go_loopw [11, 61] (fun vo ix wz => ∃ k3 : Nat, k3 ≤ l.length ∧ ix = .int .i64 k3 ∧ (k3 = 0 ∧ vo = .slice none 0 0 ∨ 0 < k3 ∧ RowsF (fun j => w.heap.size ≤ j) w.heap.size wz vo (sortP (l.take k3))) ∧ Below wr.heap.size wr wz) (fun _ ix _ => l.length - (intOf ix).toNat)
            case atStart => exact ⟨0, Nat.zero_le _, rfl, .inl ⟨rfl, rfl⟩, Below.refl _ _⟩
            case round =>
              obtain ⟨k3, hk3, rfl, hvo, hbz⟩ := hrel
              have HBZ := Lib.hid hbz
              have HVO := Lib.hid hvo
              have hle3 := hbz.size
              have hle4 := HBQ.out.size
              clear hbz hvo
              by_cases hl3' : k3 < l.length
              · have hki3 : (k3 : Int) < (l.length : Int) := by omega
                obtain ⟨gy, cy, u, ey, _, hgys, hcy, huy⟩ := (HRW.out.1.below HBZ.out).at k3 hl3'
                obtain ⟨rfl, -, rfl⟩ := Value.slice.inj ey
                have HST := Lib.hid (sortP_take l k3 hl3')
                have HYL := Lib.hid (HLL.out _ (List.getElem_mem hl3'))
                obtain ⟨y, hy⟩ : ∃ y, l[k3] = y := ⟨_, rfl⟩
                rw [hy] at huy HST HYL
                have HU := Lib.hid (show Fz (fun j => w.heap.size ≤ j ∧ j < wr.heap.size) wr u (toI y) from by
                  obtain ⟨a9, c9, rfl, j1, j2, j3⟩ := huy
                  refine ⟨a9, c9, rfl, j1, j2, fun hne => ?_⟩
                  obtain ⟨b9, o9, rfl, j6, j4, j5⟩ := j3 hne
                  exact ⟨b9, o9, rfl, ⟨HLO.out _ j6, j4⟩, j4, j5⟩)
                have HZB := Lib.hid (Nat.le_trans hle4 hle3)
                obtain ⟨au, cu, rfl, -, -, -⟩ := huy
                rw [toI_length] at hcy HU
                have hny : (sortP (l.take k3)).length = k3 := by
                  rw [(sortP_perm ((List.take_sublist _ _).nodup HND.out)).length_eq, List.length_take]; omega
                have HLS := Lib.hid (show ∀ q ∈ sortP (l.take k3), q.length = y.length from fun q hq => by
                  rw [HYL.out]; exact HLL.out q ((List.take_sublist _ _).subset ((sortP_perm ((List.take_sublist _ _).nodup HND.out)).mem_iff.1 hq)))
                obtain ⟨ls, hls⟩ : ∃ ls, sortP (l.take k3) = ls := ⟨_, rfl⟩
                rw [hls] at hny HLS HST HVO
                clear hls hy ey
                have HNY := Lib.hid hny
                have hls24 : ls.length ≤ 24 := by omega
                clear hny
                rcases HVO.out with ⟨h0, hv0⟩ | ⟨hpos, hrow⟩
                · have hls0 : ls = [] := List.eq_nil_of_length_eq_zero (by rw [HNY.out]; exact h0)
                  subst hls0
                  subst h0
                  have HI0 := Lib.hid (show insP [] y = [y] from rfl)
                  subst hv0
                  clear HVO
                  have hki0 : ¬ ((0 : Nat) : Int) < 0 := by omega
                  go_wp2
                  go_loop [14] (fun at' => at' = .int .i64 0) (fun _ => 0)
                  case atStart => rfl
                  case round =>
                    subst hrel
                    go_upto_region 27 with (fail)
                    go_region_law (first
                      | (refine step_ins2 (w0 := wr) (by rfl) _ _ (by rfl) (ls := []) (by rfl) (by rfl) HU.out (fun _ hk => hk.2) ?hb2 ?h2 ?hc2 (by decide) ?_; (case hb2 => exact (below_two' wr _ _).drew); (case h2 => first | exact RowsF.drew (rows_fresh1 wr _) | exact RowsF.drew ((rows_fresh wr rfl (Nat.le_refl _)).alloc _)); (case hc2 => first | exact held_n1 wr _ _ | exact held_n2 wr _ _); intro v2 w2 hr2 hb2; obtain ⟨g2, c2, rfl, hc2⟩ := rows_one1 hr2)
                      | (refine step_none (by rfl) _ _ (by rfl) (by rfl) (by rfl) hc2 ?_)
                      | (refine step_none (by rfl) _ _ (by rfl) (by rfl) (by rfl) (Nat.le_refl _) ?_))
                    all_goals
                      go_wp2
                      go_roundw
                      case rel => exact ⟨1, by omega, by go_num, .inr ⟨by omega, by rw [HST.out, HI0.out]; exact (hr2.mono fun _ hj => hj.1).base HZB.out⟩, HBZ.out.trans (hb2.mono hle3)⟩
                      case measure => simp [intOf]; omega
                · obtain ⟨vs, hov, hrv⟩ := hrow
                  have hvl : vs.length = ls.length := by have := hov.1; omega
                  rcases hov.2 with ⟨_, hn⟩ | ⟨g, cap, cur, rfl, _, hbg, hcap, _⟩
                  · exfalso; rw [HNY.out] at hn; omega
                  have HR := Lib.hid (show RowsR (fun j => w.heap.size ≤ j ∧ j < wr.heap.size) wr g 0 vs ls from ⟨hvl, (Array.getElem?_eq_some_iff.1 hbg).1, fun j x hj => by
                      rw [Nat.zero_add, World.ownsRow.cellAt hov j (by have := (List.getElem?_eq_some_iff.1 hj).1; omega)]
                      exact hj, fun j x q hx hq => by
                      obtain ⟨a9, c9, rfl, j1, j2, j3⟩ := hrv j x q hx hq
                      refine ⟨a9, c9, rfl, j1, j2, fun hne => ?_⟩
                      obtain ⟨b9, o9, rfl, j6, j4, j5⟩ := j3 hne
                      exact ⟨b9, o9, rfl, ⟨j6, j4⟩, j4, j5⟩⟩)
                  have HIN := Lib.hid (fun m (hm : m ≤ ls.length) => insP_at y ls m hm)
                  clear hov hrv hbg HVO
                  go_wp2
                  go_loop [14] (fun at' => ∃ m : Nat, m ≤ ls.length ∧ at' = .int .i64 m ∧ LtTo ls y m) (fun at' => ls.length - (intOf at').toNat)
                  case atStart => exact ⟨0, Nat.zero_le _, rfl, fun _ _ h => absurd h (Nat.not_lt_zero _)⟩
                  case round =>
                    obtain ⟨m, hm, rfl, hin⟩ := hrel
                    have HI := Lib.hid hin
                    clear hin
                    by_cases hgo : ∃ h : m < ls.length, ls[m] < y
                    · obtain ⟨hlt, hz⟩ := hgo
                      have hki : (m : Int) < (ls.length : Int) := by omega
                      have hvk : vs[m]? = some (vs[m]'(by rw [HR.out.len]; exact hlt)) := List.getElem?_eq_getElem _
                      obtain ⟨uk, huk⟩ : ∃ uk, vs[m]'(by rw [HR.out.len]; exact hlt) = uk := ⟨_, rfl⟩
                      rw [huk] at hvk
                      have hcx := HR.out.cell m uk hvk
                      rw [Nat.zero_add] at hcx
                      have hfz := HR.out.row m uk _ hvk (List.getElem?_eq_getElem hlt)
                      have BF := Lib.hid (before_any uk _ (toI ls[m]) (toI y) wr hfz.ints HU.out.ints (by rw [toI_length, toI_length, HLS.out _ (List.getElem_mem hlt)]))
                      rw [decide_eq_true (toI_lt.2 hz)] at BF
                      have HI2 := Lib.hid (show LtTo ls y (m + 1) from fun j h hj => by
                        by_cases e : j = m
                        · subst e; exact hz
                        · exact HI.out j h (by omega))
                      obtain ⟨ak, ck, rfl, -⟩ := hfz
                      clear hvk huk hz
                      go_wp2_with (go_at_call 88; refine BF.out.mono ?_; rintro e w1 ⟨rfl, rfl⟩)
                      go_round
                      case rel => exact ⟨m + 1, by omega, by go_num, HI2.out⟩
                      case measure => simp [intOf]; omega
                    · have HE2 := Lib.hid (HIN.out m hm HI.out (fun h hz => hgo ⟨h, hz⟩))
                      obtain ⟨ad2, had⟩ : ∃ ad2 : Addr, (if cap = m then some (⟨g, 0, none⟩ : Addr) else some ⟨g, 0 + m, none⟩) = some ad2 := by split <;> exact ⟨_, rfl⟩
                      have HT1 := Lib.hid (fun w' (hb : Below wr.heap.size wr w') => (HR.out.below hb).take m)
                      have HT3 := Lib.hid (fun w' (hb : Below wr.heap.size wr w') => (HR.out.below hb).drop hm hcap had)
                      rw [Nat.zero_add] at had
                      have HN1 := Lib.hid (show (ls.take m).length = m by rw [List.length_take]; omega)
                      have HN3 := Lib.hid (show (ls.drop m).length = ls.length - m by rw [List.length_drop])
                      have HU1 := Lib.hid (show (vs.take m).length = (ls.take m).length by rw [List.length_take, List.length_take, HR.out.len])
                      have HU3 := Lib.hid (show (vs.drop m).length = (ls.drop m).length by rw [List.length_drop, List.length_drop, HR.out.len])
                      have hle3' : (ls.take m).length + 1 + (ls.length - m) < 900002 := by rw [HN1.out]; omega
                      have hle1 : (ls.take m).length < 1000000 := by rw [HN1.out]; omega
                      have hkc : (m : Int) ≤ (cap : Int) := by omega
                      have hkl : (m : Int) ≤ (ls.length : Int) := by omega
                      by_cases hlt : m < ls.length
                      · have hz : ¬ ls[m] < y := fun hz => hgo ⟨hlt, hz⟩
                        have hki : (m : Int) < (ls.length : Int) := by omega
                        have hvk : vs[m]? = some (vs[m]'(by rw [HR.out.len]; exact hlt)) := List.getElem?_eq_getElem _
                        obtain ⟨uk, huk⟩ : ∃ uk, vs[m]'(by rw [HR.out.len]; exact hlt) = uk := ⟨_, rfl⟩
                        rw [huk] at hvk
                        have hcx := HR.out.cell m uk hvk
                        rw [Nat.zero_add] at hcx
                        have hfz := HR.out.row m uk _ hvk (List.getElem?_eq_getElem hlt)
                        have BF := Lib.hid (before_any uk _ (toI ls[m]) (toI y) wr hfz.ints HU.out.ints (by rw [toI_length, toI_length, HLS.out _ (List.getElem_mem hlt)]))
                        rw [decide_eq_false (fun h => hz (toI_lt.1 h))] at BF
                        obtain ⟨ak, ck, rfl, -⟩ := hfz
                        clear hvk huk hz hgo
                        go_upto_region 27 with (go_at_call 88; refine BF.out.mono ?_; rintro e w1 ⟨rfl, rfl⟩)
                        go_region_law (first
                            | (refine step_ins1 (w0 := wr) (by rfl) _ _ (by rfl) (ls := []) (by rfl) (by rfl) HN1.out HU1.out HT1.out (fun _ hk => hk.2) ?hb ?h (by simp; omega) ?_; (case hb => first | exact (below_two' wr _ _).drew | exact ((Below.refl _ _).alloc (Nat.le_refl _) _).drew); (case h => first | exact RowsF.drew (rows_fresh1 wr _) | exact RowsF.drew ((rows_fresh wr rfl (Nat.le_refl _)).alloc _) | exact RowsF.drew (rows_fresh wr rfl (Nat.le_refl _))); intro v1 w1 hr1 hb1 hg1)
                            | (refine step_ins2 (w0 := wr) (by rfl) _ _ (by rfl) (ls := [] ++ ls.take m) (by rfl) (by rfl) HU.out (fun _ hk => hk.2) ?hb2 ?h2 ?hc2 (by simp; omega) ?_; (case hb2 => first | exact hb1 | exact hb1.alloc hb1.size _); (case h2 => first | exact hr1 | exact hr1.alloc _); (case hc2 => first | exact Held.new _ _ [_] | exact held_ins1 wr _ hg1 | exact held_ins2 wr _ hg1); intro v2 w2 hr2 hb2)
                            | (refine step_ins1 (w0 := wr) (by rfl) _ _ (by rfl) (ls := [] ++ ls.take m ++ [y]) (by rfl) (by rfl) HN3.out HU3.out HT3.out (fun _ hk => hk.2) hb2 hr2 (by simp; omega) ?_; intro v3 w3 hr3 hb3 _))
                        all_goals
                          go_wp2
                          go_roundw
                          case rel => exact ⟨k3 + 1, hl3', by go_num, .inr ⟨by omega, by rw [HST.out, HE2.out]; exact (hr3.mono fun _ hj => hj.1).base HZB.out⟩, HBZ.out.trans (hb3.mono hle3)⟩
                          case measure => simp [intOf]; omega
                      · have hki : ¬ (m : Int) < (ls.length : Int) := by omega
                        clear hgo
                        go_upto_region 27 with (fail)
                        go_region_law (first
                            | (refine step_ins1 (w0 := wr) (by rfl) _ _ (by rfl) (ls := []) (by rfl) (by rfl) HN1.out HU1.out HT1.out (fun _ hk => hk.2) ?hb ?h (by simp; omega) ?_; (case hb => first | exact (below_two' wr _ _).drew | exact ((Below.refl _ _).alloc (Nat.le_refl _) _).drew); (case h => first | exact RowsF.drew (rows_fresh1 wr _) | exact RowsF.drew ((rows_fresh wr rfl (Nat.le_refl _)).alloc _) | exact RowsF.drew (rows_fresh wr rfl (Nat.le_refl _))); intro v1 w1 hr1 hb1 hg1)
                            | (refine step_ins2 (w0 := wr) (by rfl) _ _ (by rfl) (ls := [] ++ ls.take m) (by rfl) (by rfl) HU.out (fun _ hk => hk.2) ?hb2 ?h2 ?hc2 (by simp; omega) ?_; (case hb2 => first | exact hb1 | exact hb1.alloc hb1.size _); (case h2 => first | exact hr1 | exact hr1.alloc _); (case hc2 => first | exact Held.new _ _ [_] | exact held_ins1 wr _ hg1 | exact held_ins2 wr _ hg1); intro v2 w2 hr2 hb2)
                            | (refine step_ins1 (w0 := wr) (by rfl) _ _ (by rfl) (ls := [] ++ ls.take m ++ [y]) (by rfl) (by rfl) HN3.out HU3.out HT3.out (fun _ hk => hk.2) hb2 hr2 (by simp; omega) ?_; intro v3 w3 hr3 hb3 _))
                        all_goals
                          go_wp2
                          go_roundw
                          case rel => exact ⟨k3 + 1, hl3', by go_num, .inr ⟨by omega, by rw [HST.out, HE2.out]; exact (hr3.mono fun _ hj => hj.1).base HZB.out⟩, HBZ.out.trans (hb3.mono hle3)⟩
                          case measure => simp [intOf]; omega
              · obtain rfl : k3 = l.length := by omega
                have HR := Lib.hid (show RowsF (fun j => w.heap.size ≤ j) w.heap.size wr u11 (sortP l) from by
                  rcases HVO.out with ⟨h, _⟩ | ⟨_, h⟩
                  · have := HGR.out.le; have := grow_one HGR.out; rw [List.eq_nil_of_length_eq_zero h] at this; cases this
                  · rwa [List.take_length] at h)
                go_wp2
                go_ret2
                exact .inr ⟨_, _, HE.out, rfl, HR.out, HBQ.out.trans (HBZ.out.mono hle4)⟩
end Go.Proofs.YtdackakjcnnofaaGreat

/- The reference's order. -/
namespace Go.Proofs.YtdackakjcnnofaaGreat
open Go.RowKit

/-- The reference's group, by value. -/
def rgV (vL vT vB vC vO : Value) (q : Int) : Value := .agg #[vL, vT, vB, vC, vO, .int .i64 q]
/-- The table lies there. -/
def TabR (w : World) (v : Value) (E : List (List Nat)) : Prop := RowsF (fun _ => True) 0 w v (tabN E)
theorem TabR.below {w w' : World} {v : Value} {E : List (List Nat)} (h : TabR w v E) (hb : Below w.heap.size w w') : TabR w' v E := RowsF.below h hb
/-- An entry of it. -/
theorem TabR.at {w : World} {v : Value} {E : List (List Nat)} (h : TabR w v E) {a b : Nat} (ha : a < E.length) (hb : b < E.length) :
    ∃ g c g2 o2 c2, v = .slice (some ⟨g, 0, none⟩) E.length c ∧ w.cell? ⟨g, a, none⟩ = some (.slice (some ⟨g2, o2, none⟩) E.length c2) ∧ w.cell? ⟨g2, o2 + b, none⟩ = some (.int .i64 (timesN E a b : Nat)) ∧ g < w.heap.size ∧ g2 < w.heap.size := by
  obtain ⟨g, c, u, e, _, hg, hc, hu⟩ := RowsF.at h a (by rw [tabN_length]; exact ha)
  rw [tabN_length] at e
  rw [tabN_at] at hu
  obtain ⟨a2, c2, rfl, _, _, h3⟩ := hu
  have hl : (toI (rowT E a)).length = E.length := by rw [toI_length, rowT_length]
  rw [hl] at hc
  have hne : toI (rowT E a) ≠ [] := by intro e; rw [e] at hl; simp at hl; omega
  obtain ⟨g2, o2, rfl, _, hg2, h4⟩ := h3 hne
  refine ⟨g, c, g2, o2, c2, e, hc, ?_, hg, hg2⟩
  have := h4 b (by rw [hl]; exact hb)
  rw [this, toI_getElem, rowT_at]

set_option maxRecDepth 100000 in
set_option maxHeartbeats 1000000 in
theorem order_any {d : Nat} {E : List (List Nat)} (vL vT vB vC vO : Value) (q : Int) (a : Nat) (w : World) (h : Grp d E) (h24 : E.length ≤ 24) (ht : TabR w vT E) (ha : a < E.length) :
    Calls Tryz.prog 110 #[rgV vL vT vB vC vO q, .int .i64 (a : Nat)] w fun e w' => e = .returned (.int .i64 (ordN E a : Nat)) ∧ Below w.heap.size w w' := by
  have HG := Lib.hid h
  have HT := Lib.hid ht
  have hord := (h.ord_spec ha).1
  obtain ⟨n, hn⟩ : ∃ n, E.length = n := ⟨_, rfl⟩
  rw [hn] at h24 hord
  have HN := Lib.hid hn
  have han : a < n := by omega
  unfold rgV
  clear h ht hn
  go_enter Tryz.func110, Tryz.ntmps110
  go_wp2
  go_loop [5, 6] (fun s x => ∃ m : Nat, s = .int .i64 m ∧ x = .int .i64 (powN E a m : Nat) ∧ OrdTo E a m) (fun s _ => 100 - (intOf s).toNat)
  case atStart => exact ⟨1, rfl, by rw [HG.out.pow_one ha], OrdTo.start HG.out ha⟩
  case round =>
    obtain ⟨m, rfl, rfl, hm⟩ := hrel
    have HM := Lib.hid hm
    have hml := hm.2.1
    have hpl := hm.2.2
    rw [HN.out] at hpl
    by_cases hz : powN E a m = 0
    · have HD := Lib.hid (HM.out.done HG.out ha hz)
      clear hm
      rw [hz]
      go_wp2
      go_ret
      exact ⟨ret_int (by rw [HD.out]), (Below.refl _ _).alloc (Nat.le_refl _) _⟩
    · obtain ⟨hs1, hs2⟩ := HM.out.step HG.out ha hz
      have HS := Lib.hid hs1
      obtain ⟨g, c, g2, o2, c2, rfl, hc1, hc2, hg1, hg2⟩ := HT.out.at (a := powN E a m) (b := a) (by rw [HN.out]; exact hpl) ha
      rw [hs2] at hc2
      rw [HN.out] at hc1 ⊢
      have hzi : ¬ ((powN E a m : Nat) : Int) = 0 := by omega
      have hnei : (((powN E a m : Nat) : Int) != 0) = true := by simp; omega
      obtain ⟨x, hx⟩ : ∃ x, powN E a m = x := ⟨_, rfl⟩
      obtain ⟨y, hy⟩ : ∃ y, powN E a (m + 1) = y := ⟨_, rfl⟩
      have HY := Lib.hid hy
      rw [hx] at hc1 hzi hpl hnei ⊢
      rw [hy] at hc2
      clear hm hs1 hs2 hx hy hz
      go_wp2
      go_round
      case rel => exact ⟨m + 1, by go_num, by rw [HY.out], HS.out⟩
      case measure => simp [intOf]; omega
end Go.Proofs.YtdackakjcnnofaaGreat

/- The reference's prime. -/
namespace Go.Proofs.YtdackakjcnnofaaGreat
open Go.RowKit

/-- No number ahead of q fits. -/
def NoneTo (E : List (List Nat)) (d q : Nat) : Prop := max E.length d < q ∧ q ≤ primeN E d ∧ ∀ p, max E.length d < p → p < q → fitsN E p = false
theorem NoneTo.start {d : Nat} {E : List (List Nat)} (h : Grp d E) (hd : d ≤ 5) (hn : E.length ≤ 24) : NoneTo E d (max E.length d + 1) := by
  have := h.prime_spec hd hn
  exact ⟨by omega, by omega, fun p h1 h2 => by omega⟩
theorem NoneTo.next {d q : Nat} {E : List (List Nat)} (hp : Grp d E) (hd : d ≤ 5) (hn : E.length ≤ 24) (h : NoneTo E d q) (hf : fitsN E q = false) : NoneTo E d (q + 1) := by
  have hs := hp.prime_spec hd hn
  refine ⟨by have := h.1; omega, ?_, fun p h1 h2 => ?_⟩
  · rcases Nat.lt_or_ge q (primeN E d) with h1 | h1
    · exact h1
    · have e : q = primeN E d := by have := h.2.1; omega
      rw [e, hs.2.2.1] at hf
      cases hf
  · by_cases e : p = q
    · rw [e]; exact hf
    · exact h.2.2 p h1 (by omega)
theorem NoneTo.done {d q : Nat} {E : List (List Nat)} (hp : Grp d E) (hd : d ≤ 5) (hn : E.length ≤ 24) (h : NoneTo E d q) (hf : fitsN E q = true) : q = primeN E d := by
  have hs := hp.prime_spec hd hn
  rcases Nat.lt_or_ge q (primeN E d) with h1 | h1
  · rw [hs.2.2.2 q h.1 h1] at hf; cases hf
  · have := h.2.1; omega
theorem max_cast (a b : Nat) : max (a : Int) (b : Int) = ((max a b : Nat) : Int) := by omega
theorem fitsN_cut {E : List (List Nat)} {q : Nat} : fitsN E q = (primeB q && ordTo E q E.length) := rfl

set_option maxRecDepth 100000 in
set_option maxHeartbeats 2000000 in
theorem prime_any {d : Nat} {E : List (List Nat)} (vL vT vB vC vO : Value) (q0 : Int) (w : World) (h : Grp d E) (hd1 : 1 ≤ d) (hd : d ≤ 5) (h24 : E.length ≤ 24) (hL : RowsF (fun _ => True) 0 w vL E) (ht : TabR w vT E) :
    Calls Tryz.prog 86 #[rgV vL vT vB vC vO q0] w fun e w' => e = .returned (.int .i64 (primeN E d : Nat)) ∧ Below w.heap.size w w' := by
  have HG := Lib.hid h
  have HORD := Lib.hid (fun (a : Nat) (w' : World) (hb : Below w.heap.size w w') (ha : a < E.length) => order_any vL vT vB vC vO q0 a w' h h24 (ht.below hb) ha)
  have HST := Lib.hid (NoneTo.start h hd h24)
  have HNX := Lib.hid (fun q (hq : NoneTo E d q) hf => NoneTo.next h hd h24 hq hf)
  have HDN := Lib.hid (fun q (hq : NoneTo E d q) hf => NoneTo.done h hd h24 hq hf)
  have hp62 := (h.prime_spec hd h24).2.1
  have hpos := h.pos
  have HOS := Lib.hid (fun a (ha : a < E.length) => (h.ord_spec ha).1)
  obtain ⟨g0, c0, u0, e0, _, hg0, hc0, hu0⟩ := hL.at 0 hpos
  subst e0
  have HLEN := Lib.hid (show (E[0]).length = d from (h.perm _ (List.getElem_mem hpos)).len)
  obtain ⟨a5, c5, rfl, -, -, -⟩ := hu0
  rw [toI_length, HLEN.out] at hc0
  obtain ⟨n, hn⟩ : ∃ n, E.length = n := ⟨_, rfl⟩
  have HM := Lib.hid (max_cast n d)
  rw [hn] at h24 hpos HORD HOS ⊢
  have HN := Lib.hid hn
  have hpi : (0 : Int) < (n : Int) := by omega
  obtain ⟨M, hMM⟩ : ∃ M, max n d = M := ⟨_, rfl⟩
  have hM30 : M ≤ 24 ∧ 1 ≤ M := by omega
  have hmx : (if n < d then ((d : Nat) : Int) else ((n : Nat) : Int)) = (M : Int) := by split <;> omega
  have HMX := Lib.hid hmx
  rw [hn, hMM] at HST
  unfold rgV at *
  clear h ht hL hn hMM HLEN hmx
  go_enter Tryz.func86, Tryz.ntmps86
  go_wp2_with fail
  go_quiet (fail)
  rw [HMX.out]
  go_wp2
  go_loopw [3] (fun qv wr => ∃ q : Nat, qv = .int .i64 q ∧ NoneTo E d q ∧ Below (w.heap.size + 1) (w.alloc (.cells #[.slice (some ⟨g0, 0, none⟩) n c0, vT, vB, vC, vO, .int .i64 q0] 29)) wr) (fun qv _ => 100 - (intOf qv).toNat)
  case atStart => exact ⟨M + 1, by go_num, HST.out, ⟨rfl, rfl, rfl, Nat.le_refl _, fun _ _ => rfl⟩⟩
  case round =>
    obtain ⟨q, rfl, hq, hb⟩ := hrel
    have HQ := Lib.hid hq
    have HB := Lib.hid hb
    have hq2 : 2 ≤ q := by have := hq.1; rw [HN.out] at this; omega
    have hq62 : q < 62 := by have := hq.2.1; omega
    have hq1i : (1 : Int) < (q : Int) := by omega
    have HBW := Lib.hid (show Below w.heap.size w wr from ((Below.refl w.heap.size w).alloc (Nat.le_refl _) _).trans (HB.out.mono (Nat.le_succ _)))
    have HC := Lib.hid ((Held.new w 29 [.slice (some ⟨g0, 0, none⟩) n c0, vT, vB, vC, vO, .int .i64 q0]).below HB.out (by omega))
    have hcL := HC.out.at (i := 0) rfl
    have hcT := HC.out.at (i := 1) rfl
    have hcB := HC.out.at (i := 2) rfl
    have hcC := HC.out.at (i := 3) rfl
    have hcO := HC.out.at (i := 4) rfl
    have hcQ := HC.out.at (i := 5) rfl
    clear hq hb
    have HD2 := Lib.hid (show divTo q 2 = true by rw [divTo_two]; exact decide_eq_true (by omega))
    go_wp2
    go_loop [4, 5] (fun b k => ∃ kn : Nat, 2 ≤ kn ∧ kn ≤ q ∧ k = .int .i64 kn ∧ b = .bool (divTo q kn)) (fun _ k => q - (intOf k).toNat)
    case atStart => exact ⟨2, Nat.le_refl _, hq2, rfl, by rw [HD2.out]⟩
    case round =>
      obtain ⟨kn, hk2, hkq, rfl, rfl⟩ := hrel
      by_cases hlt : kn < q
      · have hki : (kn : Int) < (q : Int) := by omega
        have HS := Lib.hid (divTo_succ (q := q) hk2)
        have hrem : Int.tmod (q : Int) (kn : Int) = ((q % kn : Nat) : Int) := by rw [Int.ofNat_tmod]
        have hk0 : ¬ (kn : Int) = 0 := by omega
        have HM1 := Lib.hid (fun m : Nat => show (((m : Nat) : Int) != 0) = (m != 0) by
          cases m with
          | zero => rfl
          | succ k => rfl)
        cases hdv : divTo q kn with
        | true =>
          rw [hdv] at HS
          obtain ⟨m, hm⟩ : ∃ m, q % kn = m := ⟨_, rfl⟩
          rw [hm] at HS hrem
          clear hm hdv
          by_cases hm0 : m = 0
          · subst hm0
            go_wp2
            go_round
            case rel => exact ⟨kn + 1, by omega, by omega, by go_num, by rw [HS.out]; rfl⟩
            case measure => simp [intOf]; omega
          · have hmi : (((m : Nat) : Int) != 0) = true := by simp; omega
            have hmi2 : ¬ ((m : Nat) : Int) = 0 := by omega
            have HE := Lib.hid (show (true && (m != 0)) = true by simpa using hm0)
            go_wp2
            go_round
            case rel => exact ⟨kn + 1, by omega, by omega, by go_num, by rw [HS.out, HE.out]⟩
            case measure => simp [intOf]; omega
        | false =>
          rw [hdv, Bool.false_and] at HS
          clear hdv
          go_wp2
          go_round
          case rel => exact ⟨kn + 1, by omega, by omega, by go_num, by rw [HS.out]⟩
          case measure => simp [intOf]; omega
      · obtain rfl : kn = q := by omega
        have hki : ¬ (kn : Int) < (kn : Int) := by omega
        have HPB := Lib.hid (divTo_end kn)
        rw [HPB.out]
        have HFT := Lib.hid (fitsN_cut (E := E) (q := kn))
        obtain ⟨pb, hpb⟩ : ∃ pb, primeB kn = pb := ⟨_, rfl⟩
        rw [hpb] at HFT ⊢
        clear hpb
        go_wp2
        go_loopw [4, 36] (fun b ix wq => ∃ a : Nat, a ≤ n ∧ ix = .int .i64 a ∧ b = .bool (pb && ordTo E kn a) ∧ Below wr.heap.size wr wq) (fun _ ix _ => n - (intOf ix).toNat)
        case atStart => exact ⟨0, Nat.zero_le _, rfl, by rw [ordTo_zero, Bool.and_true], Below.refl _ _⟩
        case round =>
          obtain ⟨a, ha, rfl, rfl, hb2⟩ := hrel
          have HB2 := Lib.hid hb2
          have hle2 := hb2.size
          have hle1 := HBW.out.size
          have HC2 := Lib.hid (HC.out.below HB2.out HC.out.lt)
          have hc2L := HC2.out.at (i := 0) rfl
          have hc2T := HC2.out.at (i := 1) rfl
          have hc2B := HC2.out.at (i := 2) rfl
          have hc2C := HC2.out.at (i := 3) rfl
          have hc2O := HC2.out.at (i := 4) rfl
          have hc2Q := HC2.out.at (i := 5) rfl
          have HBA := HB
          clear hb2
          by_cases hlt2 : a < n
          · have hai : (a : Int) < (n : Int) := by omega
            have HS := Lib.hid (ordTo_succ (E := E) kn a)
            have hoN := HOS.out a hlt2
            have OC := Lib.hid (HORD.out a wr (HBW.out.trans (HB2.out.mono hle1)) hlt2)
            obtain ⟨m, hm⟩ : ∃ m, ordN E a = m := ⟨_, rfl⟩
            have hm1 : 1 ≤ m := by rw [← hm]; exact Nat.succ_pos _
            rw [hm] at HS hoN OC
            have hrem : Int.tmod ((kn : Int) - 1) (m : Int) = (((kn - 1) % m : Nat) : Int) := by
              rw [show (kn : Int) - 1 = ((kn - 1 : Nat) : Int) by omega, Int.ofNat_tmod]
            have hm0 : ¬ (m : Int) = 0 := by omega
            cases hdv : (pb && ordTo E kn a) with
            | true =>
              obtain ⟨h1, h2⟩ := Bool.and_eq_true_iff.1 hdv
              rw [h2] at HS
              subst h1
              obtain ⟨r, hr⟩ : ∃ r, (kn - 1) % m = r := ⟨_, rfl⟩
              rw [hr] at HS hrem
              clear hr hdv h2 hm
              by_cases hr0 : r = 0
              · subst hr0
                go_wp2_with (go_at_call 110; refine OC.out.mono ?_; rintro e w3 ⟨rfl, hb3⟩; have HB3 := Lib.hid hb3; clear hb3)
                go_roundw
                case rel => exact ⟨a + 1, by omega, by go_num, by rw [HS.out]; rfl, HB2.out.trans (HB3.out.mono hle2)⟩
                case measure => simp [intOf]; omega
              · have hri : (((r : Nat) : Int) == 0) = false := by simp; omega
                have hri2 : ¬ ((r : Nat) : Int) = 0 := by omega
                have HE := Lib.hid (show (true && (r == 0)) = false by simpa using hr0)
                go_wp2_with (go_at_call 110; refine OC.out.mono ?_; rintro e w3 ⟨rfl, hb3⟩; have HB3 := Lib.hid hb3; clear hb3)
                go_roundw
                case rel => exact ⟨a + 1, by omega, by go_num, by rw [HS.out, HE.out]; rfl, HB2.out.trans (HB3.out.mono hle2)⟩
                case measure => simp [intOf]; omega
            | false =>
              have HE := Lib.hid (show (pb && ordTo E kn (a + 1)) = false by rw [HS.out, ← Bool.and_assoc, hdv]; rfl)
              clear hdv hm
              go_wp2
              go_roundw
              case rel => exact ⟨a + 1, by omega, by go_num, by rw [HE.out], HB2.out⟩
              case measure => simp [intOf]; omega
          · obtain rfl : a = n := by omega
            have hai : ¬ (a : Int) < (a : Int) := by omega
            rw [HN.out] at HFT
            cases hft : (pb && ordTo E kn a) with
            | true =>
              have HF := Lib.hid (HDN.out kn HQ.out (by rw [HFT.out]; exact hft))
              clear hft
              go_wp2
              go_ret
              exact ⟨ret_int (by rw [← HF.out]), HBW.out.trans (HB2.out.mono hle1)⟩
            | false =>
              have HF := Lib.hid (HNX.out kn HQ.out (by rw [HFT.out]; exact hft))
              clear hft
              go_wp2
              go_roundw
              case rel => exact ⟨kn + 1, by go_num, HF.out, HBA.out.trans (HB2.out.mono (by have := HBA.out.size; simp at this; omega))⟩
              case measure => simp [intOf]; have := HF.out.2.1; omega
end Go.Proofs.YtdackakjcnnofaaGreat

/- What is held while the reference makes a group. -/
namespace Go.Proofs.YtdackakjcnnofaaGreat
open Go.RowKit

structure MkI (H bx : Nat) (S : Nat → Prop) (w : World) (vL vT vB vC vO : Value) (T C : List (List Nat)) (B : List Nat) (O : List Int) : Prop where
  box : Held w bx 29 [vL, vT, vB, vC, vO, .int .i64 0]
  t : RowsF S H w vT T
  c : RowsF S H w vC C
  b : OwnI 3 H w vB (toI B)
  o : OwnI 3 H w vO O
  hS : ∀ k, S k → typeAt w k = some 3 ∧ vB.ownBlock ≠ some k ∧ vO.ownBlock ≠ some k
  bo : ∀ k, vB.ownBlock = some k → vO.ownBlock ≠ some k
  tc : ∀ k, vT.ownBlock = some k → vC.ownBlock ≠ some k
section
variable {H bx : Nat} {S : Nat → Prop} {w w1 w2 : World} {vL vT vB vC vO v' u : Value} {T C : List (List Nat)} {B : List Nat} {O : List Int} {l : List Nat}
theorem MkI.kept (h : MkI H bx S w vL vT vB vC vO T C B O) {P : Nat → Prop} (hs : Sm P w w1) (pX : P bx) (pT : ∀ k, vT.ownBlock = some k → P k) (pC : ∀ k, vC.ownBlock = some k → P k) (pB : ∀ k, vB.ownBlock = some k → P k) (pO : ∀ k, vO.ownBlock = some k → P k) (pS : ∀ k, S k → P k) : MkI H bx S w1 vL vT vB vC vO T C B O :=
  ⟨h.box.sm hs pX, h.t.kept hs pS pT, h.c.kept hs pS pC, own_sm h.b hs pB, own_sm h.o hs pO, fun k hk => ⟨by rw [ty_block (hs.block k (pS k hk) (ty_lt (h.hS k hk).1))]; exact (h.hS k hk).1, (h.hS k hk).2⟩, h.bo, h.tc⟩
theorem MkI.below (h : MkI H bx S w vL vT vB vC vO T C B O) (hb : Below w.heap.size w w1) : MkI H bx S w1 vL vT vB vC vO T C B O :=
  h.kept (P := fun _ => True) (Sm.of_below hb) trivial (fun _ _ => trivial) (fun _ _ => trivial) (fun _ _ => trivial) (fun _ _ => trivial) (fun _ _ => trivial)
theorem loc_new {v v' : Value} {n : Nat} (ho : v'.ownBlock = v.ownBlock ∨ v'.ownBlock = some n) {k : Nat} (h : v'.ownBlock = some k) (hk : k < n) : v.ownBlock = some k := by
  rcases ho with ho | ho
  · rw [← ho]; exact h
  · rw [ho] at h; cases h; omega
/-- The field of the table of products is another slice. -/
theorem MkI.timed (h : MkI H bx S w vL vT vB vC vO T C B O) (hb : Below w.heap.size w w1) {S' : Nat → Prop} (hSS : ∀ k, S k → S' k) (hS' : ∀ k, S' k → typeAt w1 k = some 3 ∧ vB.ownBlock ≠ some k ∧ vO.ownBlock ≠ some k) {T' : List (List Nat)}
    (hr : RowsF S' H w2 v' T') (hg : w1.grownBy w2 vT.ownBlock) (ho : v'.ownBlock = vT.ownBlock ∨ v'.ownBlock = some w1.heap.size) : MkI H bx S' (w2.setCell ⟨bx, 1, none⟩ v') vL v' vB vC vO T' C B O := by
  have h1 := h.below hb
  have sg : Sm (fun k => some k ≠ vT.ownBlock) w1 w2 := Sm.of_grown hg fun _ hk => hk
  have ne : ∀ {k : Nat}, typeAt w1 k ≠ some 27 → some k ≠ vT.ownBlock := fun hk e => hk (h1.t.ty e.symm)
  have g1 := h1.box.sm sg (ne (by rw [h1.box.ty]; decide))
  have g2 := (h1.c.mono hSS).kept sg (fun k hk => ne (by rw [(hS' k hk).1]; decide)) (fun k hk e => h.tc k e.symm hk)
  have g3 := own_sm' h1.b sg (fun k hk => ne (by rw [own_ty h1.b hk]; decide))
  have g4 := own_sm' h1.o sg (fun k hk => ne (by rw [own_ty h1.o hk]; decide))
  have g5 : ∀ k, S' k → typeAt w2 k = some 3 := fun k hk => by rw [ty_block (sg.block k (ne (by rw [(hS' k hk).1]; decide)) (ty_lt (hS' k hk).1))]; exact (hS' k hk).1
  have st := Sm.put (w := w2) bx 1 v'
  have nt : ∀ {k : Nat}, typeAt w2 k ≠ some 29 → k ≠ bx := fun hk => ty_ne (by rw [g1.ty]; exact hk)
  have g6 : ∀ k, S' k → k ≠ bx := fun k hk => nt (by rw [g5 k hk]; decide)
  refine ⟨by exact g1.put 1 v', hr.kept st g6 (fun k hk => nt (by rw [hr.ty hk]; decide)), g2.kept st g6 (fun k hk => nt (by rw [g2.ty hk]; decide)), own_sm g3 st (fun k hk => nt (by rw [own_ty g3 hk]; decide)), own_sm g4 st (fun k hk => nt (by rw [own_ty g4 hk]; decide)),
    fun k hk => ⟨by rw [ty_block (st.block k (g6 k hk) (ty_lt (g5 k hk)))]; exact g5 k hk, (hS' k hk).2⟩, h.bo, fun k hk e => h.tc k (loc_new ho hk (by have := (h1.c.own k e).2; exact this)) e⟩
/-- The field of the classes is another slice. -/
theorem MkI.classed (h : MkI H bx S w vL vT vB vC vO T C B O) (hb : Below w.heap.size w w1) {S' : Nat → Prop} (hSS : ∀ k, S k → S' k) (hS' : ∀ k, S' k → typeAt w1 k = some 3 ∧ vB.ownBlock ≠ some k ∧ vO.ownBlock ≠ some k) {C' : List (List Nat)}
    (hr : RowsF S' H w2 v' C') (hg : w1.grownBy w2 vC.ownBlock) (ho : v'.ownBlock = vC.ownBlock ∨ v'.ownBlock = some w1.heap.size) : MkI H bx S' (w2.setCell ⟨bx, 3, none⟩ v') vL vT vB v' vO T C' B O := by
  have h1 := h.below hb
  have sg : Sm (fun k => some k ≠ vC.ownBlock) w1 w2 := Sm.of_grown hg fun _ hk => hk
  have ne : ∀ {k : Nat}, typeAt w1 k ≠ some 27 → some k ≠ vC.ownBlock := fun hk e => hk (h1.c.ty e.symm)
  have g1 := h1.box.sm sg (ne (by rw [h1.box.ty]; decide))
  have g2 := (h1.t.mono hSS).kept sg (fun k hk => ne (by rw [(hS' k hk).1]; decide)) (fun k hk e => h.tc k hk e.symm)
  have g3 := own_sm' h1.b sg (fun k hk => ne (by rw [own_ty h1.b hk]; decide))
  have g4 := own_sm' h1.o sg (fun k hk => ne (by rw [own_ty h1.o hk]; decide))
  have g5 : ∀ k, S' k → typeAt w2 k = some 3 := fun k hk => by rw [ty_block (sg.block k (ne (by rw [(hS' k hk).1]; decide)) (ty_lt (hS' k hk).1))]; exact (hS' k hk).1
  have st := Sm.put (w := w2) bx 3 v'
  have nt : ∀ {k : Nat}, typeAt w2 k ≠ some 29 → k ≠ bx := fun hk => ty_ne (by rw [g1.ty]; exact hk)
  have g6 : ∀ k, S' k → k ≠ bx := fun k hk => nt (by rw [g5 k hk]; decide)
  refine ⟨by exact g1.put 3 v', g2.kept st g6 (fun k hk => nt (by rw [g2.ty hk]; decide)), hr.kept st g6 (fun k hk => nt (by rw [hr.ty hk]; decide)), own_sm g3 st (fun k hk => nt (by rw [own_ty g3 hk]; decide)), own_sm g4 st (fun k hk => nt (by rw [own_ty g4 hk]; decide)),
    fun k hk => ⟨by rw [ty_block (st.block k (g6 k hk) (ty_lt (g5 k hk)))]; exact g5 k hk, (hS' k hk).2⟩, h.bo, fun k hk e => h.tc k hk (loc_new ho e (by have := (h1.t.own k hk).2; exact this))⟩
/-- The field of the inverses is another slice. -/
theorem MkI.backed (h : MkI H bx S w vL vT vB vC vO T C B O) (hb : Below w.heap.size w w1) {B' : List Nat} (hr : OwnI 3 H w2 v' (toI B')) (hg : w1.grownBy w2 vB.ownBlock) (ho : v'.ownBlock = vB.ownBlock ∨ v'.ownBlock = some w1.heap.size) : MkI H bx S (w2.setCell ⟨bx, 2, none⟩ v') vL vT v' vC vO T C B' O := by
  have h1 := h.below hb
  have sg : Sm (fun k => some k ≠ vB.ownBlock) w1 w2 := Sm.of_grown hg fun _ hk => hk
  have ne : ∀ {k : Nat}, typeAt w1 k ≠ some 3 → some k ≠ vB.ownBlock := fun hk e => hk (own_ty h1.b e.symm)
  have pS : ∀ k, S k → some k ≠ vB.ownBlock := fun k hk e => (h.hS k hk).2.1 e.symm
  have g1 := h1.box.sm sg (ne (by rw [h1.box.ty]; decide))
  have g2 := h1.t.kept sg pS (fun k hk => ne (by rw [h1.t.ty hk]; decide))
  have g2' := h1.c.kept sg pS (fun k hk => ne (by rw [h1.c.ty hk]; decide))
  have g4 := own_sm' h1.o sg (fun k hk e => h.bo k e.symm hk)
  have g5 : ∀ k, S k → typeAt w2 k = some 3 := fun k hk => by rw [ty_block (sg.block k (pS k hk) (ty_lt (h1.hS k hk).1))]; exact (h1.hS k hk).1
  have st := Sm.put (w := w2) bx 2 v'
  have nt : ∀ {k : Nat}, typeAt w2 k ≠ some 29 → k ≠ bx := fun hk => ty_ne (by rw [g1.ty]; exact hk)
  have g6 : ∀ k, S k → k ≠ bx := fun k hk => nt (by rw [g5 k hk]; decide)
  refine ⟨by exact g1.put 2 v', g2.kept st g6 (fun k hk => nt (by rw [g2.ty hk]; decide)), g2'.kept st g6 (fun k hk => nt (by rw [g2'.ty hk]; decide)), own_sm hr st (fun k hk => nt (by rw [own_ty hr hk]; decide)), own_sm g4 st (fun k hk => nt (by rw [own_ty g4 hk]; decide)),
    fun k hk => ⟨by rw [ty_block (st.block k (g6 k hk) (ty_lt (g5 k hk)))]; exact g5 k hk, fun e => (h.hS k hk).2.1 (loc_new ho e (ty_lt (h1.hS k hk).1)), (h.hS k hk).2.2⟩, fun k hk e => h.bo k (loc_new ho hk (World.ownsRow.lt h1.o k e).2) e, h.tc⟩
/-- The field of the class numbers is another slice. -/
theorem MkI.offed (h : MkI H bx S w vL vT vB vC vO T C B O) (hb : Below w.heap.size w w1) {O' : List Int} (hr : OwnI 3 H w2 v' O') (hg : w1.grownBy w2 vO.ownBlock) (ho : v'.ownBlock = vO.ownBlock ∨ v'.ownBlock = some w1.heap.size) : MkI H bx S (w2.setCell ⟨bx, 4, none⟩ v') vL vT vB vC v' T C B O' := by
  have h1 := h.below hb
  have sg : Sm (fun k => some k ≠ vO.ownBlock) w1 w2 := Sm.of_grown hg fun _ hk => hk
  have ne : ∀ {k : Nat}, typeAt w1 k ≠ some 3 → some k ≠ vO.ownBlock := fun hk e => hk (own_ty h1.o e.symm)
  have pS : ∀ k, S k → some k ≠ vO.ownBlock := fun k hk e => (h.hS k hk).2.2 e.symm
  have g1 := h1.box.sm sg (ne (by rw [h1.box.ty]; decide))
  have g2 := h1.t.kept sg pS (fun k hk => ne (by rw [h1.t.ty hk]; decide))
  have g2' := h1.c.kept sg pS (fun k hk => ne (by rw [h1.c.ty hk]; decide))
  have g4 := own_sm' h1.b sg (fun k hk e => h.bo k hk e.symm)
  have g5 : ∀ k, S k → typeAt w2 k = some 3 := fun k hk => by rw [ty_block (sg.block k (pS k hk) (ty_lt (h1.hS k hk).1))]; exact (h1.hS k hk).1
  have st := Sm.put (w := w2) bx 4 v'
  have nt : ∀ {k : Nat}, typeAt w2 k ≠ some 29 → k ≠ bx := fun hk => ty_ne (by rw [g1.ty]; exact hk)
  have g6 : ∀ k, S k → k ≠ bx := fun k hk => nt (by rw [g5 k hk]; decide)
  refine ⟨by exact g1.put 4 v', g2.kept st g6 (fun k hk => nt (by rw [g2.ty hk]; decide)), g2'.kept st g6 (fun k hk => nt (by rw [g2'.ty hk]; decide)), own_sm g4 st (fun k hk => nt (by rw [own_ty g4 hk]; decide)), own_sm hr st (fun k hk => nt (by rw [own_ty hr hk]; decide)),
    fun k hk => ⟨by rw [ty_block (st.block k (g6 k hk) (ty_lt (g5 k hk)))]; exact g5 k hk, (h.hS k hk).2.1, fun e => (h.hS k hk).2.2 (loc_new ho e (ty_lt (h1.hS k hk).1))⟩, fun k hk e => h.bo k hk (loc_new ho e (World.ownsRow.lt h1.b k hk).2), h.tc⟩
/-- One class number is laid. -/
theorem MkI.put {g cap : Nat} (h : MkI H bx S w vL vT vB vC (.slice (some ⟨g, 0, none⟩) O.length cap) T C B O) (j : Nat) (y : Int) : MkI H bx S (w.setCell ⟨g, j, none⟩ (.int .i64 y)) vL vT vB vC (.slice (some ⟨g, 0, none⟩) O.length cap) T C B (O.set j y) := by
  have hg : (Value.slice (some ⟨g, 0, none⟩) O.length cap).ownBlock = some g := rfl
  have st := Sm.put (w := w) g j (.int .i64 y)
  have tg := own_ty h.o hg
  have nt : ∀ {k : Nat}, typeAt w k ≠ some 3 → k ≠ g := fun hk => ty_ne (by rw [tg]; exact hk)
  have pS : ∀ k, S k → k ≠ g := fun k hk e => (h.hS k hk).2.2 (by rw [e]; rfl)
  exact ⟨h.box.sm st (nt (by rw [h.box.ty]; decide)), h.t.kept st pS (fun k hk => nt (by rw [h.t.ty hk]; decide)), h.c.kept st pS (fun k hk => nt (by rw [h.c.ty hk]; decide)), own_sm h.b st (fun k hk e => h.bo k hk (by rw [e]; rfl)), h.o.stored j y,
    fun k hk => ⟨by rw [ty_block (st.block k (pS k hk) (ty_lt (h.hS k hk).1))]; exact (h.hS k hk).1, (h.hS k hk).2⟩, h.bo, h.tc⟩
/-- A new row's block may join those of the rows. -/
theorem MkI.join (h : MkI H bx S w vL vT vB vC vO T C B O) (hb : Below w.heap.size w w1) (hu : OwnI 3 w.heap.size w1 u (toI l)) : ∀ k, (S k ∨ u.ownBlock = some k) → typeAt w1 k = some 3 ∧ vB.ownBlock ≠ some k ∧ vO.ownBlock ≠ some k := by
  intro k hk
  rcases hk with hk | hk
  · have := (h.below hb).hS k hk; exact this
  · refine ⟨own_ty hu hk, fun e => ?_, fun e => ?_⟩
    · have h1 := (World.ownsRow.lt hu k hk).1; have h2 := (World.ownsRow.lt h.b k e).2; omega
    · have h1 := (World.ownsRow.lt hu k hk).1; have h2 := (World.ownsRow.lt h.o k e).2; omega
end
end Go.Proofs.YtdackakjcnnofaaGreat

/- The reference's group as Make returns it. -/
namespace Go.Proofs.YtdackakjcnnofaaGreat
open Go.RowKit

def RGI (d : Nat) (E : List (List Nat)) (w : World) (gv : Value) : Prop :=
  ∃ vL vT vB vC vO, gv = rgV vL vT vB vC vO (primeN E d : Nat) ∧ RowsF (fun _ => True) 0 w vL E ∧ TabR w vT E ∧ Ints w vB (toI (backL E)) ∧ RowsF (fun _ => True) 0 w vC (classesN E) ∧ Ints w vO (ofL E E.length)
theorem RGI.below {d : Nat} {E : List (List Nat)} {w w' : World} {gv : Value} (h : RGI d E w gv) (hb : Below w.heap.size w w') : RGI d E w' gv := by
  obtain ⟨vL, vT, vB, vC, vO, e, h1, h2, h3, h4, h5⟩ := h
  exact ⟨vL, vT, vB, vC, vO, e, h1.below hb, h2.below hb, h3.below hb, h4.below hb, h5.below hb⟩
/-- No group. -/
def rg0 : Value := rgV (.slice none 0 0) (.slice none 0 0) (.slice none 0 0) (.slice none 0 0) (.slice none 0 0) 0
theorem infoRG : (Tryz.prog.info? 29).map (·.size) = some 6 := by kernel_rfl
theorem results_rg {fn : Func} {tmps : Array Value} {w : World} {g s s2 : Nat} {l : List Value} (v : Value) (hfn : fn.results = #[.cell s 29, .tmp s2]) (hs : tmps.getD s undef = .pointer (some ⟨g, 0, none⟩)) (h : Held w g 29 l) (hl : l.length = 6) (hv : tmps.getD s2 undef = v) :
    (results fn tmps).run Tryz.prog w = .ok (.tuple #[.agg l.toArray, v]) w := by
  have hr := run_loadVar_mid (P := Tryz.prog) w g 0 29 l _ h.range Tryz.underlying29 rfl (by rw [infoRG, hl])
  unfold results
  rw [hfn]
  have hs' : tmps[s]?.getD undef = .pointer (some ⟨g, 0, none⟩) := by simpa using hs
  have hv' : tmps[s2]?.getD undef = v := by simpa using hv
  simp [hs', hv', hr, asAddr]
theorem Elements_over {d : Nat} {gens : List (List Nat)} (v : Value) (w : World) (h : Args w v (gens.map toI)) (hp : ∀ p ∈ gens, Perm1 d p) (h1 : 1 ≤ gens.length) (h4 : gens.length ≤ 4) (hd1 : 1 ≤ d) (hd5 : d ≤ 5) (ho : Over d gens) :
    Calls Tryz.prog 83 #[v] w fun e w' => e = .returned (.tuple #[.slice none 0 0, .int .i64 6]) ∧ Below w.heap.size w w' := by
  refine (Elements_any v gens d w h hp h1 h4 hd1 hd5).mono fun e w' hh => ?_
  rcases hh with ⟨_, h1, h2⟩ | ⟨E, _, hE, _⟩
  · exact ⟨h1, h2⟩
  · exact absurd ho hE.not_over
theorem Elements_yes {d : Nat} {gens E : List (List Nat)} (v : Value) (w : World) (h : Args w v (gens.map toI)) (hp : ∀ p ∈ gens, Perm1 d p) (h1 : 1 ≤ gens.length) (h4 : gens.length ≤ 4) (hd1 : 1 ≤ d) (hd5 : d ≤ 5) (hE : IsG d gens E) :
    Calls Tryz.prog 83 #[v] w fun e w' => ∃ v', e = .returned (.tuple #[v', .int .i64 0]) ∧ RowsF (fun k => w.heap.size ≤ k) w.heap.size w' v' E ∧ Below w.heap.size w w' := by
  refine (Elements_any v gens d w h hp h1 h4 hd1 hd5).mono fun e w' hh => ?_
  rcases hh with ⟨ho, _⟩ | ⟨E', v', hE', h1, h2, h3⟩
  · exact absurd ho hE.not_over
  · rw [hE.uniq hE']; exact ⟨v', h1, h2, h3⟩

set_option maxRecDepth 100000 in
set_option maxHeartbeats 1000000 in
theorem Make_over {d : Nat} {gens : List (List Nat)} (v : Value) (w : World) (h : Args w v (gens.map toI)) (hp : ∀ p ∈ gens, Perm1 d p) (h1 : 1 ≤ gens.length) (h4 : gens.length ≤ 4) (hd1 : 1 ≤ d) (hd5 : d ≤ 5) (ho : Over d gens) :
    Calls Tryz.prog 46 #[v] w fun e w' => e = .returned (.tuple #[rg0, .int .i64 6]) ∧ Below w.heap.size w w' := by
  have CE := Lib.hid (fun w' (hb : Below w.heap.size w w') => Elements_over v w' (h.below hb) hp h1 h4 hd1 hd5 ho)
  clear h hp
  go_enter Tryz.func46, Tryz.ntmps46
  go_wp2_with (first
    | (go_at_call 83; refine (CE.out _ ((Below.refl _ _).alloc (Nat.le_refl _) _)).mono ?_; rintro e w1 ⟨rfl, hb1⟩; have HH := Lib.hid ((Held.made (w := w) (l := [.slice none 0 0, .slice none 0 0, .slice none 0 0, .slice none 0 0, .slice none 0 0, .int .i64 0]) (t := 29) rfl).below hb1 (by simp)); have HB := Lib.hid (show Below w.heap.size w w1 from ((Below.refl _ _).alloc (Nat.le_refl _) _).trans (hb1.mono (by simp))); clear hb1)
    | (refine wpl_store_all infoRG (by rfl) _ _ (by rfl) w.heap.size [.slice none 0 0, .slice none 0 0, .slice none 0 0, .slice none 0 0, .slice none 0 0, .int .i64 0] _ (by rfl) (by rfl) (by simp [Value.oneCell']) (by rfl) (by rfl) HH.out ?_; intro w2 hh2 hs2 hz2; have HH2 := Lib.hid hh2; have HB2 := Lib.hid (hs2.below HB.out (Nat.le_refl _) HB.out.size); clear hh2 hs2 hz2))
  exact bodyPost_ret (results_rg (.int .i64 6) Tryz.results46 (by rfl) HH2.out rfl (by rfl)) rfl ⟨rfl, HB2.out⟩
end Go.Proofs.YtdackakjcnnofaaGreat

/- The reference's Generators. -/
namespace Go.Proofs.YtdackakjcnnofaaGreat
open Go.RowKit

/-- The numbers of a row that have been looked at. -/
def Pre (d : Nat) (p : List Int) (k m : Nat) : Prop := (∀ x ∈ p.take k, 0 ≤ x ∧ x < (d : Int)) ∧ (p.take k).Nodup ∧ m = maskP (p.take k) ∧ m < 32 ∧ (0 < k → d ≤ 5)
theorem Pre.zero (d : Nat) (p : List Int) : Pre d p 0 0 := ⟨by simp, by simp, rfl, by omega, fun h => by omega⟩
theorem Pre.next {d : Nat} {p : List Int} {k m : Nat} (h : Pre d p k m) (hk : k < p.length) {j : Nat} (hp : p[k] = (j : Int)) (hj : j < d) (hd : d ≤ 5) (hb : m.testBit j = false) : Pre d p (k + 1) (m ||| 2 ^ j) := by
  obtain ⟨h1, h2, h3, h4, _⟩ := h
  refine ⟨?_, ?_, ?_, or_lt32 j (by omega) m h4, fun _ => hd⟩
  · rw [List.take_succ_eq_append_getElem hk]
    intro x hx
    rcases List.mem_append.1 hx with hx | hx
    · exact h1 x hx
    · rw [List.mem_singleton.1 hx, hp]; omega
  · rw [List.take_succ_eq_append_getElem hk, List.nodup_append]
    refine ⟨h2, by simp, fun a ha b hb' e => ?_⟩
    rw [h3, maskP_bit hd (by omega) h1] at hb
    rw [List.mem_singleton.1 hb', hp] at e
    rw [e] at ha
    simp [ha] at hb
  · rw [List.take_succ_eq_append_getElem hk, maskP_snoc, hp, h3, Int.toNat_natCast]
theorem Pre.twice {d : Nat} {p : List Int} {k m : Nat} (h : Pre d p k m) (hk : k < p.length) {j : Nat} (hp : p[k] = (j : Int)) (hd : d ≤ 5) (hj : j < d) (hb : m.testBit j = true) : rowQ d p = false := by
  obtain ⟨h1, h2, h3, h4, _⟩ := h
  refine rowQ_no fun ⟨_, _, _, hn, _⟩ => ?_
  rw [h3, maskP_bit hd (by omega) h1] at hb
  have hm : (j : Int) ∈ p.take k := by simpa using hb
  rw [← List.take_append_drop k p, List.nodup_append] at hn
  exact hn.2.2 _ hm _ (by rw [List.drop_eq_getElem_cons hk, hp]; exact List.mem_cons_self) rfl
theorem rowQ_out {d : Nat} {p : List Int} {k : Nat} (hk : k < p.length) (h : p[k] < 0 ∨ (d : Int) ≤ p[k] ∨ 5 < d) : rowQ d p = false :=
  rowQ_no fun ⟨_, h5, hall, _, _⟩ => by have := hall _ (List.getElem_mem hk); omega
theorem Pre.row {d : Nat} {p : List Int} {m : Nat} (h : Pre d p p.length m) (h1 : 1 ≤ d) (hl : p.length = d) : rowQ d p = true := by
  obtain ⟨a, b, _, _, c⟩ := h
  rw [List.take_length] at a b
  exact rowQ_iff.2 ⟨h1, c (by omega), a, b, hl⟩

set_option maxRecDepth 100000 in
set_option maxHeartbeats 1000000 in
theorem Generators_any (v : Value) (L : List (List Int)) (w : World) (h : Args w v L) :
    Calls Tryz.prog 45 #[v] w fun e w' => e = .returned (.bool (genQ L)) ∧ w = w' := by
  have HA := Lib.hid h
  have hL := h.len
  obtain ⟨a, c, rfl⟩ := h.form
  clear h
  by_cases h1 : L.length < 1
  · have HQ := Lib.hid (genQ_len (L := L) (.inl h1))
    have hd : decide (L.length < 1) = true := by simpa using h1
    have hz : L.length = 0 := by omega
    go_enter Tryz.func45, Tryz.ntmps45
    go_wp2
    go_ret
    exact ⟨ret_bool HQ.out.symm, rfl⟩
  · by_cases h4 : 4 < L.length
    · have HQ := Lib.hid (genQ_len (L := L) (.inr h4))
      go_enter Tryz.func45, Tryz.ntmps45
      go_wp2
      go_ret
      exact ⟨ret_bool HQ.out.symm, rfl⟩
    · have h0 : 0 < L.length := by omega
      obtain ⟨b, off, c', u0, e0, hb, hc0, hu0⟩ := HA.out.at 0 h0
      obtain ⟨rfl, _, rfl⟩ := Value.slice.inj e0
      have HD := Lib.hid (show L[0] = L.headD [] by cases L with
        | nil => simp at h0
        | cons x L => rfl)
      obtain ⟨d, hd⟩ : ∃ d, (L.headD []).length = d := ⟨_, rfl⟩
      rw [HD.out] at hu0
      obtain ⟨a5, c5, rfl, hlm, _, _⟩ := hu0
      rw [hd] at hlm hc0
      have HDD := Lib.hid hd
      rw [Nat.add_zero] at hc0
      clear hd e0
      go_enter Tryz.func45, Tryz.ntmps45
      go_wp2
      go_loop [23] (fun ix => ∃ k : Nat, k ≤ L.length ∧ ix = .int .i64 k ∧ ∀ i (hi : i < L.length), i < k → rowQ d L[i] = true) (fun i => L.length - (intOf i).toNat)
      case atStart => exact ⟨0, Nat.zero_le _, rfl, fun i _ h => by omega⟩
      case round =>
        obtain ⟨k, hk, rfl, hbef⟩ := hrel
        have HB := Lib.hid hbef
        clear hbef
        by_cases hlt : k < L.length
        · obtain ⟨b2, off2, c2, u, e2, hb2, hcu, hu⟩ := HA.out.at k hlt
          have hbo : b2 = b ∧ off2 = off := by
            have := (Value.slice.inj e2).1
            simpa [eq_comm] using this
          obtain ⟨rfl, rfl⟩ := hbo
          obtain ⟨p, hp⟩ : ∃ p, L[k] = p := ⟨_, rfl⟩
          rw [hp] at hu
          have HP := Lib.hid hp
          have HBAD := Lib.hid (fun h : rowQ d p = false => genQ_bad hlt (by rw [HDD.out, hp]; exact h))
          obtain ⟨a3, c3, rfl, hl3, _, hcells⟩ := hu
          have HC := Lib.hid hcells
          have hki : (k : Int) < (L.length : Int) := by omega
          clear hp hcells e2
          go_wp2
          go_loop [6, 29] (fun s ix => ∃ i m : Nat, i ≤ p.length ∧ ix = .int .i64 i ∧ s = .int .i64 m ∧ Pre d p i m) (fun _ i => p.length - (intOf i).toNat)
          case atStart => exact ⟨0, 0, Nat.zero_le _, rfl, rfl, Pre.zero d p⟩
          case round =>
            obtain ⟨i, m, hi, rfl, rfl, hpre⟩ := hrel
            have hm := hpre.2.2.2.1
            have HR := Lib.hid hpre
            clear hpre
            by_cases hil : i < p.length
            · obtain ⟨b4, off4, rfl, hbl, hcell⟩ := HC.out (ne_nil_of_lt hil)
              have hcx := hcell i hil
              clear hcell
              have HOUT := Lib.hid (fun h => HBAD.out (rowQ_out (d := d) hil h))
              by_cases hneg : p[i] < 0
              · have HQ := Lib.hid (HOUT.out (.inl hneg))
                go_wp2
                go_ret
                exact ⟨ret_bool HQ.out.symm, rfl⟩
              · by_cases hge : (d : Int) ≤ p[i]
                · have HQ := Lib.hid (HOUT.out (.inr (.inl hge)))
                  go_wp2
                  go_ret
                  exact ⟨ret_bool HQ.out.symm, rfl⟩
                · by_cases h5 : 5 < d
                  · have HQ := Lib.hid (HOUT.out (.inr (.inr h5)))
                    have h5i : (5 : Int) < (d : Int) := by omega
                    go_wp2
                    go_ret
                    exact ⟨ret_bool HQ.out.symm, rfl⟩
                  · have h5i : ¬ (5 : Int) < (d : Int) := by omega
                    obtain ⟨j, hj⟩ : ∃ j : Nat, p[i] = (j : Int) := ⟨p[i].toNat, by omega⟩
                    rw [hj] at hcx hneg hge
                    have q0 := bit_walk j (by omega) m hm
                    have hj5 : (j : Int) < 5 := by omega
                    cases hbit : m.testBit j with
                    | true =>
                      have HQ := Lib.hid (HBAD.out (HR.out.twice hil hj (by omega) (by omega) hbit))
                      rw [hbit, if_pos rfl] at q0
                      clear hbit hj
                      go_wp2
                      go_ret
                      exact ⟨ret_bool HQ.out.symm, rfl⟩
                    | false =>
                      have HN := Lib.hid (HR.out.next hil hj (by omega) (by omega) hbit)
                      rw [hbit, if_neg Bool.false_ne_true] at q0
                      have q1 := pow_in64 j (by omega)
                      have q3 := pow_in j (by omega)
                      have q5 := or_walk j (by omega) _ hm
                      clear hbit hj
                      go_wp2
                      go_round
                      case rel => exact ⟨i + 1, m ||| 2 ^ j, hil, by go_num, by first | rfl | simp, HN.out⟩
                      case measure => simp [intOf]; omega
            · obtain rfl : i = p.length := by omega
              by_cases hok : p.length = d ∧ 1 ≤ d
              · have HROW := Lib.hid (HR.out.row hok.2 hok.1)
                have HNX := Lib.hid (show ∀ j (hj : j < L.length), j < k + 1 → rowQ d L[j] = true from fun j hj hlt' => by
                  by_cases e : j = k
                  · subst e; rw [HP.out]; exact HROW.out
                  · exact HB.out j hj (by omega))
                have hd1 : ¬ (d : Int) < 1 := by omega
                have hpl : ((p.length : Int) != (d : Int)) = false := by simp [hok.1]
                clear hok
                go_wp2
                go_round
                case rel => exact ⟨k + 1, hlt, by go_num, HNX.out⟩
                case measure => simp [intOf]; omega
              · have HQ := Lib.hid (HBAD.out (rowQ_no fun ⟨x1, _, _, _, x5⟩ => hok ⟨x5, x1⟩))
                by_cases hpl : p.length = d
                · have hd0 : (d : Int) < 1 := by omega
                  have hpl' : ((p.length : Int) != (d : Int)) = false := by simp [hpl]
                  clear hpl hok
                  go_wp2
                  go_ret
                  exact ⟨ret_bool HQ.out.symm, rfl⟩
                · have hpl' : ((p.length : Int) != (d : Int)) = true := by simp; omega
                  clear hok
                  go_wp2
                  go_ret
                  exact ⟨ret_bool HQ.out.symm, rfl⟩
        · have HE := Lib.hid (genQ_all (L := L) (by omega) (by omega) fun p hp => by
            obtain ⟨i, hi, rfl⟩ := List.getElem_of_mem hp
            rw [HDD.out]
            exact HB.out i hi (by omega))
          go_wp2
          go_ret
          exact ⟨ret_bool HE.out.symm, rfl⟩
end Go.Proofs.YtdackakjcnnofaaGreat
