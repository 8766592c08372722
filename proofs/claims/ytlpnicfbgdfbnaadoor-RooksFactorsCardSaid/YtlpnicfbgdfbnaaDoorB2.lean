/- Boards turned, as lists. No Go in sight. -/
import Derived.Test.YtlpnicfbgdfbnaaDoorB1
namespace Go.Proofs.YtlpnicfbgdfbnaaDoor

theorem numL_same {a b : List Nat} (ha : IsBoard a) (hb : IsBoard b) (hl : a.length = b.length) (h : ∀ k, cnt a 0 k = cnt b 0 k) : numL a 0 = numL b 0 := by
  refine getD_ext (by rw [numL_length, numL_length, hl]) fun k _ => ?_
  rw [numL_cnt a 0 k ha.lt, numL_cnt b 0 k hb.lt, h]

/-! ### rows exchanged -/
def rowsSw (bs : List Nat) (i j : Nat) : List Nat := (bs.set i (bs.getD j 0)).set j (bs.getD i 0)
theorem rowsSw_perm (bs : List Nat) (i j : Nat) (hi : i < bs.length) (hj : j < bs.length) : (rowsSw bs i j).Perm bs := by
  unfold rowsSw
  rw [getD_at hi, getD_at hj]
  exact List.set_set_perm hi hj
theorem board_perm {a b : List Nat} (hp : a.Perm b) (h : IsBoard b) : IsBoard a :=
  ⟨by rw [hp.length_eq]; exact h.pos, by rw [hp.length_eq]; exact h.le, fun r hr => by rw [hp.length_eq]; exact h.row r (hp.mem_iff.1 hr)⟩
theorem chain_iff {a b : List Nat} (h : ∀ x, x ∈ a ↔ x ∈ b) : Chain a ↔ Chain b := by
  unfold Chain
  exact ⟨fun H r hr s hs => H r ((h r).2 hr) s ((h s).2 hs), fun H r hr s hs => H r ((h r).1 hr) s ((h s).1 hs)⟩
theorem riseN_same {a b : List Nat} (hp : a.Perm b) : riseN a = riseN b :=
  sorted_unique ((riseN_perm a).trans (hp.trans (riseN_perm b).symm)) (riseN_sorted a) (riseN_sorted b)
theorem resHt_perm {a b : List Nat} (hp : a.Perm b) : resHt a = resHt b := by
  unfold resHt
  rw [riseN_same (hp.map pop)]
  by_cases h : Chain b
  · rw [if_pos h, if_pos ((chain_iff fun x => hp.mem_iff).2 h)]
  · rw [if_neg h, if_neg (fun h' => h ((chain_iff fun x => hp.mem_iff).1 h'))]
theorem rows_turned {bs : List Nat} (h : IsBoard bs) (i j : Nat) (hi : i < bs.length) (hj : j < bs.length) :
    IsBoard (rowsSw bs i j) ∧ numL (rowsSw bs i j) 0 = numL bs 0 ∧ hitsL (rowsSw bs i j) = hitsL bs ∧ resHt (rowsSw bs i j) = resHt bs := by
  have hp := rowsSw_perm bs i j hi hj
  have hb := board_perm hp h
  have hn := numL_same hb h hp.length_eq (cnt_perm hp 0)
  exact ⟨hb, hn, hits_of_rooks hb h hp.length_eq hn, resHt_perm hp⟩

/-! ### columns exchanged -/
def colSw (i j r : Nat) : Nat := if (r.testBit i == r.testBit j) = true then r else r ^^^ (2 ^ i ||| 2 ^ j)
theorem colSw_bit : ∀ r : Nat, r < 64 → ∀ i : Nat, i < 6 → ∀ j : Nat, j < 6 → ∀ c : Nat, c < 6 → (colSw i j r).testBit c = r.testBit (sw i j c) := by decide +kernel
theorem colSw_lt : ∀ n : Nat, n < 7 → ∀ r : Nat, r < 2 ^ n → ∀ i : Nat, i < n → ∀ j : Nat, j < n → colSw i j r < 2 ^ n := by decide +kernel
theorem colSw_pop : ∀ r : Nat, r < 64 → ∀ i : Nat, i < 6 → ∀ j : Nat, j < 6 → pop (colSw i j r) = pop r := by decide +kernel
theorem colSw_colSw : ∀ r : Nat, r < 64 → ∀ i : Nat, i < 6 → ∀ j : Nat, j < 6 → colSw i j (colSw i j r) = r := by decide +kernel
def sub6 (r s : Nat) : Prop := ∀ c, c < 6 → r.testBit c = true → s.testBit c = true
theorem sub6_iff {r s : Nat} (hr : r < 64) : r &&& s = r ↔ sub6 r s := by
  constructor
  · intro h c _ hb
    rw [← h, Nat.testBit_and] at hb
    simp at hb; exact hb.2
  · intro h
    refine Nat.eq_of_testBit_eq fun c => ?_
    rw [Nat.testBit_and]
    by_cases hc : c < 6
    · cases hb : r.testBit c with
      | false => rfl
      | true => rw [h c hc hb]; rfl
    · rw [bit_high hr (by omega)]; rfl
theorem okP_iff {r s : Nat} (hr : r < 64) (hs : s < 64) : okP r s ↔ sub6 r s ∨ sub6 s r := by
  unfold okP
  rw [sub6_iff hr, Nat.and_comm, sub6_iff hs]
theorem sw_lt (i j c : Nat) (hi : i < 6) (hj : j < 6) (hc : c < 6) : sw i j c < 6 := by unfold sw; split <;> (try split) <;> omega
theorem colSw_sub {r s i j : Nat} (hr : r < 64) (hs : s < 64) (hi : i < 6) (hj : j < 6) (h : sub6 r s) : sub6 (colSw i j r) (colSw i j s) := by
  intro c hc hb
  rw [colSw_bit r hr i hi j hj c hc] at hb
  rw [colSw_bit s hs i hi j hj c hc]
  exact h _ (sw_lt i j c hi hj hc) hb
theorem colSw_lt64 {r i j : Nat} (hr : r < 64) (hi : i < 6) (hj : j < 6) : colSw i j r < 64 := colSw_lt 6 (by decide) r hr i hi j hj
theorem colSw_ok {r s i j : Nat} (hr : r < 64) (hs : s < 64) (hi : i < 6) (hj : j < 6) (h : okP r s) : okP (colSw i j r) (colSw i j s) := by
  rw [okP_iff hr hs] at h
  rw [okP_iff (colSw_lt64 hr hi hj) (colSw_lt64 hs hi hj)]
  exact h.imp (colSw_sub hr hs hi hj) (colSw_sub hs hr hi hj)
def colsSw (bs : List Nat) (i j : Nat) : List Nat := bs.map (colSw i j)
theorem cols_turned {bs : List Nat} (h : IsBoard bs) (i j : Nat) (hi : i < bs.length) (hj : j < bs.length) :
    IsBoard (colsSw bs i j) ∧ numL (colsSw bs i j) 0 = numL bs 0 ∧ hitsL (colsSw bs i j) = hitsL bs ∧ resHt (colsSw bs i j) = resHt bs := by
  have h6 := h.le
  have hl : (colsSw bs i j).length = bs.length := by unfold colsSw; simp
  have hb : IsBoard (colsSw bs i j) := ⟨by rw [hl]; exact h.pos, by rw [hl]; exact h.le, fun r hr => by
    rw [hl]
    obtain ⟨x, hx, rfl⟩ := List.mem_map.1 hr
    exact colSw_lt _ (by omega) x (h.row x hx) i hi j hj⟩
  have hn : numL (colsSw bs i j) 0 = numL bs 0 := numL_same hb h hl fun k => by
    rw [cnt_mat, cnt_mat, hl, ← cM_sw i j (by omega) (by omega) (mat bs)]
    refine cM_congr _ _ _ _ fun a ha c hc => ?_
    have e : mat (colsSw bs i j) a c = mat bs a (sw i j c) := by
      unfold mat colsSw
      rw [getD_at (by simp; exact ha), getD_at ha, List.getElem_map, colSw_bit _ (h.lt _ (List.getElem_mem ha)) i (by omega) j (by omega) c hc]
    rw [e]; rfl
  refine ⟨hb, hn, hits_of_rooks hb h hl hn, ?_⟩
  have hc : Chain (colsSw bs i j) ↔ Chain bs := by
    constructor
    · intro H r hr s hs
      have := H _ (List.mem_map.2 ⟨r, hr, rfl⟩) _ (List.mem_map.2 ⟨s, hs, rfl⟩)
      have := colSw_ok (i := i) (j := j) (colSw_lt64 (h.lt r hr) (by omega) (by omega)) (colSw_lt64 (h.lt s hs) (by omega) (by omega)) (by omega) (by omega) this
      rwa [colSw_colSw _ (h.lt r hr) _ (by omega) _ (by omega), colSw_colSw _ (h.lt s hs) _ (by omega) _ (by omega)] at this
    · intro H r hr s hs
      obtain ⟨x, hx, rfl⟩ := List.mem_map.1 hr
      obtain ⟨y, hy, rfl⟩ := List.mem_map.1 hs
      exact colSw_ok (h.lt x hx) (h.lt y hy) (by omega) (by omega) (H x hx y hy)
  have hm : (colsSw bs i j).map pop = bs.map pop := by
    unfold colsSw
    rw [List.map_map]
    exact List.map_congr_left fun r hr => colSw_pop r (h.lt r hr) i (by omega) j (by omega)
  unfold resHt
  rw [hm]
  by_cases hh : Chain bs
  · rw [if_pos hh, if_pos (hc.2 hh)]
  · rw [if_neg hh, if_neg (fun h' => hh (hc.1 h'))]

/-! ### rows with columns -/
def tcol (bs : List Nat) (c : Nat) : Nat → Nat
  | 0 => 0
  | k + 1 => tcol bs c k ||| (((bs.getD k 0 >>> c) &&& 1) <<< k)
theorem tcol_bit (bs : List Nat) (c a : Nat) : ∀ k, (tcol bs c k).testBit a = (decide (a < k) && (bs.getD a 0).testBit c)
  | 0 => by simp [tcol]
  | k + 1 => by
    have e : ((bs.getD k 0 >>> c) &&& 1) = if (bs.getD k 0).testBit c then 1 else 0 := by
      rw [Nat.testBit_eq_decide_div_mod_eq, Nat.and_one_is_mod, Nat.shiftRight_eq_div_pow]
      rcases Nat.mod_two_eq_zero_or_one (bs.getD k 0 / 2 ^ c) with h | h <;> rw [h] <;> rfl
    rw [tcol, Nat.testBit_or, tcol_bit bs c a k, e]
    have e2 : ((if (bs.getD k 0).testBit c = true then 1 else 0) <<< k).testBit a = (decide (a = k) && (bs.getD k 0).testBit c) := by
      cases hb : (bs.getD k 0).testBit c with
      | false => simp
      | true =>
        simp only [if_true, Nat.shiftLeft_eq, Nat.one_mul, Nat.testBit_two_pow, Bool.and_true]
        by_cases h : a = k
        · simp [h]
        · have h' : ¬ k = a := fun x => h x.symm
          simp [h, h']
    rw [e2]
    by_cases h : a = k
    · subst h; simp
    · by_cases h2 : a < k
      · simp [h, h2, show a < k + 1 by omega]
      · simp [h, h2, show ¬ a < k + 1 by omega]
def overB (bs : List Nat) : List Nat := (List.range bs.length).map fun c => tcol bs c bs.length
theorem overB_length (bs : List Nat) : (overB bs).length = bs.length := by simp [overB]
theorem mat_over {bs : List Nat} (h : IsBoard bs) (c a : Nat) : mat (overB bs) c a = mat bs a c := by
  unfold mat
  by_cases hc : c < bs.length
  · rw [getD_at (by rw [overB_length]; exact hc)]
    simp only [overB, List.getElem_map, List.getElem_range]
    rw [tcol_bit]
    by_cases ha : a < bs.length
    · simp [ha]
    · rw [getD_out (show bs.length ≤ a by omega)]; simp
  · rw [getD_out (by rw [overB_length]; omega)]
    by_cases ha : a < bs.length
    · rw [getD_at ha]
      cases hb : (bs[a]).testBit c with
      | false => simp
      | true => exact absurd (row_bit (h.row _ (List.getElem_mem ha)) hb) hc
    · rw [getD_out (show bs.length ≤ a by omega)]; simp
theorem tcol_lt (bs : List Nat) (c : Nat) : ∀ k, tcol bs c k < 2 ^ k
  | 0 => by simp [tcol]
  | k + 1 => by
    rw [tcol]
    have h1 := tcol_lt bs c k
    have h2 : 2 ^ k < 2 ^ (k + 1) := Nat.pow_lt_pow_right (by decide) (by omega)
    refine Nat.or_lt_two_pow (by omega) ?_
    rw [Nat.shiftLeft_eq]
    have h3 : (bs.getD k 0 >>> c) &&& 1 ≤ 1 := Nat.and_le_right
    have h4 : ((bs.getD k 0 >>> c) &&& 1) * 2 ^ k ≤ 1 * 2 ^ k := Nat.mul_le_mul_right _ h3
    omega
theorem not_chain {bs : List Nat} (h : IsBoard bs) : ¬ Chain bs ↔ ∃ i k c d, c < 6 ∧ d < 6 ∧ i < bs.length ∧ k < bs.length ∧ mat bs i c = true ∧ mat bs k c = false ∧ mat bs k d = true ∧ mat bs i d = false := by
  have ns : ∀ r s, ¬ sub6 r s → ∃ c, c < 6 ∧ r.testBit c = true ∧ s.testBit c = false := fun r s hn => by
    refine Classical.byContradiction fun hne => hn fun c hc hb => ?_
    cases hs : s.testBit c with
    | true => rfl
    | false => exact absurd ⟨c, hc, hb, hs⟩ hne
  constructor
  · intro hn
    have : ∃ r ∈ bs, ∃ s ∈ bs, ¬ okP r s := Classical.byContradiction fun hne => hn fun r hr s hs => Classical.byContradiction fun hok => hne ⟨r, hr, s, hs, hok⟩
    obtain ⟨r, hr, s, hs, hok⟩ := this
    rw [okP_iff (h.lt r hr) (h.lt s hs)] at hok
    obtain ⟨c, hc, c1, c2⟩ := ns r s (fun x => hok (.inl x))
    obtain ⟨d, hd, d1, d2⟩ := ns s r (fun x => hok (.inr x))
    obtain ⟨i, hi, rfl⟩ := List.mem_iff_getElem.1 hr
    obtain ⟨k, hk, rfl⟩ := List.mem_iff_getElem.1 hs
    exact ⟨i, k, c, d, hc, hd, hi, hk, by unfold mat; rw [getD_at hi]; exact c1, by unfold mat; rw [getD_at hk]; exact c2, by unfold mat; rw [getD_at hk]; exact d1, by unfold mat; rw [getD_at hi]; exact d2⟩
  · rintro ⟨i, k, c, d, hc, hd, hi, hk, h1, h2, h3, h4⟩ H
    unfold mat at h1 h2 h3 h4
    rw [getD_at hi] at h1 h4
    rw [getD_at hk] at h2 h3
    have := H _ (List.getElem_mem hi) _ (List.getElem_mem hk)
    rw [okP_iff (h.lt _ (List.getElem_mem hi)) (h.lt _ (List.getElem_mem hk))] at this
    rcases this with hs | hs
    · have := hs c hc h1; rw [h2] at this; cases this
    · have := hs d hd h3; rw [h4] at this; cases this
theorem over_turned {bs : List Nat} (h : IsBoard bs) :
    IsBoard (overB bs) ∧ numL (overB bs) 0 = numL bs 0 ∧ hitsL (overB bs) = hitsL bs ∧ (resHt (overB bs)).2 = (resHt bs).2 := by
  have h6 := h.le
  have hl := overB_length bs
  have hb : IsBoard (overB bs) := ⟨by rw [hl]; exact h.pos, by rw [hl]; exact h.le, fun r hr => by
    rw [hl]
    obtain ⟨c, _, rfl⟩ := List.mem_map.1 hr
    exact tcol_lt bs c _⟩
  have hout : ∀ a c, bs.length ≤ a ∨ bs.length ≤ c → mat bs a c = false := fun a c hac => by
    unfold mat
    by_cases ha : a < bs.length
    · rw [getD_at ha]
      cases hb : (bs[a]).testBit c with
      | false => rfl
      | true => have := row_bit (h.row _ (List.getElem_mem ha)) hb; omega
    · rw [getD_out (show bs.length ≤ a by omega)]; simp
  have hn : numL (overB bs) 0 = numL bs 0 := numL_same hb h hl fun k => by
    rw [cnt_mat, cnt_mat, hl, cM_over bs.length h6 bs.length (mat bs) k h6 hout]
    exact cM_congr _ _ _ _ fun a _ c _ => by rw [mat_over h]
  refine ⟨hb, hn, hits_of_rooks hb h hl hn, ?_⟩
  have key : ∀ {a b : List Nat}, IsBoard a → IsBoard b → a.length = b.length → (∀ i c, mat b c i = mat a i c) → ¬ Chain a → ¬ Chain b := by
    intro a b ha hb hl hm hn
    rw [not_chain ha] at hn
    obtain ⟨i, k, c, d, hc, hd, hi, hk, h1, h2, h3, h4⟩ := hn
    have hin : ∀ i c, mat a i c = true → c < b.length := fun i c h => by
      rw [← hm] at h
      unfold mat at h
      refine Nat.lt_of_not_le fun hle => ?_
      rw [getD_out hle] at h; simp at h
    rw [not_chain hb]
    refine ⟨c, d, i, k, by have := ha.le; omega, by have := ha.le; omega, hin i c h1, hin k d h3, by rw [hm]; exact h1, by rw [hm]; exact h4, by rw [hm]; exact h3, by rw [hm]; exact h2⟩
  have e : Chain (overB bs) ↔ Chain bs := by
    constructor
    · intro H
      exact Classical.byContradiction fun hn => key h hb hl.symm (fun i c => mat_over h c i) hn H
    · intro H
      exact Classical.byContradiction fun hn => key hb h hl (fun i c => (mat_over h i c).symm) hn H
  unfold resHt
  by_cases hh : Chain bs
  · rw [if_pos hh, if_pos (e.2 hh)]
  · rw [if_neg hh, if_neg (fun h' => hh (e.1 h'))]
end Go.Proofs.YtlpnicfbgdfbnaaDoor
