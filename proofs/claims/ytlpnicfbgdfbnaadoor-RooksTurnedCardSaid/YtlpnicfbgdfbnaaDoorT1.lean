/- RooksTurned: the walk. -/
import Derived.Test.YtlpnicfbgdfbnaaDoorB2
import Derived.Test.YtlpnicfbgdfbnaaDoorA7
import Derived.Deep.RegionHeld3
import Derived.Deep.DrawnRows
import Derived.StillTailTactics
import Derived.Deep.DeepCutAuto
namespace Go.Proofs.YtlpnicfbgdfbnaaDoor
open Go.RowKit Go.Shelf
attribute [local go_sem] Oper.semAt_some

set_option maxRecDepth 20000 in
set_option maxHeartbeats 2000000 in
theorem Turned_no (v : Value) (xs : List Int) (i j : Int) (w : World) (hv : Ints w v xs) (ht : Tab w) (h : boardB xs = false) :
    Calls Tryd.prog 11 #[v, .int .i64 i, .int .i64 j] w (True1 w) := by
  have C15 := Lib.hid (fun w' (hb : Below w.heap.size w w') => list_any v xs w' (hv.below hb))
  have C14 := Lib.hid (fun v' w' (hb : Ints w' v' (xs.take 9)) => Rooks_no v' _ w' hb (by rw [boardB_take]; exact h))
  have C18 := Lib.hid (fun w' (hb : Below w.heap.size w w') => awake_any w' (ht.below hb))
  have hl9 : (xs.take 9).length ≤ 17592186044416 := by rw [List.length_take]; omega
  obtain ⟨a, c, rfl, hlen, hcl, hc⟩ := hv
  have hb0 := Below.refl w.heap.size w
  clear hc ht h
  go_enter Tryd.func11, Tryd.ntmps11
  go_wp2_with (first
      | (go_at_call 18; refine (C18.out w2 hb2).mono ?_; rintro e w3 ⟨rfl, hb3'⟩; have hb3 := hb2.trans (hb3'.mono hb2.size))
      | (go_at_call 14; refine (C14.out v1 w1 (ho1.ints hl9)).mono ?_; rintro e w2 ⟨rfl, hb2'⟩; have hb2 := hb1.trans (hb2'.mono hb1.size))
      | (go_at_call 15; refine (C15.out w hb0).mono ?_; rintro e w1 ⟨v1, rfl, ho1, hb1'⟩; have hb1 := hb1'))
  go_ret
  exact ⟨rfl, hb3⟩

theorem modI_w (i : Int) (n : Nat) (h : 0 < n) (h6 : n ≤ 6) : ∃ m : Nat, m < n ∧ wrap64 ((IntKind.u64.wrap i).tmod n) = (m : Int) := by
  have h0 : 0 ≤ IntKind.u64.wrap i := by simp [IntKind.wrap, IntKind.signed, IntKind.bits]; omega
  obtain ⟨x, hx⟩ := Int.eq_ofNat_of_zero_le h0
  rw [hx]
  refine ⟨x % n, Nat.mod_lt _ h, ?_⟩
  have hlt : x % n < n := Nat.mod_lt _ h
  have e : ((x : Int)).tmod (n : Int) = ((x % n : Nat) : Int) := by
    rw [Int.tmod_eq_emod_of_nonneg (by omega)]; rfl
  rw [e]
  unfold wrap64; omega

structure T8 (W : World) (rs cs os : List Nat) (v14 v15 v16 : Value) (wr : World) : Prop where
  b : Below W.heap.size W wr
  r : OwnI 3 W.heap.size wr v14 (toI rs)
  c : OwnI 3 W.heap.size wr v15 (toI cs)
  o : OwnI 3 W.heap.size wr v16 (toI os)
  n1 : ∀ k, v14.ownBlock = some k → v15.ownBlock ≠ some k
  n2 : ∀ k, v14.ownBlock = some k → v16.ownBlock ≠ some k
  n3 : ∀ k, v15.ownBlock = some k → v16.ownBlock ≠ some k
section
variable {W wr : World} {rs cs os : List Nat} {v14 v15 v16 : Value} {g n c : Nat}
theorem T8.drew (h : T8 W rs cs os v14 v15 v16 wr) : T8 W rs cs os v14 v15 v16 wr.drew := ⟨h.b.drew, h.r.drew, h.c.drew, h.o.drew, h.n1, h.n2, h.n3⟩
theorem T8.drewN (h : T8 W rs cs os v14 v15 v16 wr) (n : Nat) : T8 W rs cs os v14 v15 v16 (wr.drewN n) := ⟨below_drewN h.b n, h.r.below (below_drewN (Below.refl _ _) n), h.c.below (below_drewN (Below.refl _ _) n), h.o.below (below_drewN (Below.refl _ _) n), h.n1, h.n2, h.n3⟩
theorem T8.putR (h : T8 W rs cs os (.slice (some ⟨g, 0, none⟩) n c) v15 v16 wr) (j x : Nat) : T8 W (rs.set j x) cs os (.slice (some ⟨g, 0, none⟩) n c) v15 v16 (wr.setCell ⟨g, j, none⟩ (.int .i64 (x : Int))) :=
  ⟨h.b.setCell h.r.blockEq.1 _, h.r.storedN j x, ownI_at h.c (fun e => h.n1 g rfl e.symm) j _, ownI_at h.o (fun e => h.n2 g rfl e.symm) j _, h.n1, h.n2, h.n3⟩
theorem T8.putC (h : T8 W rs cs os v14 (.slice (some ⟨g, 0, none⟩) n c) v16 wr) (j x : Nat) : T8 W rs (cs.set j x) os v14 (.slice (some ⟨g, 0, none⟩) n c) v16 (wr.setCell ⟨g, j, none⟩ (.int .i64 (x : Int))) :=
  ⟨h.b.setCell h.c.blockEq.1 _, ownI_at h.r (fun e => h.n1 g e.symm rfl) j _, h.c.storedN j x, ownI_at h.o (fun e => h.n3 g rfl e.symm) j _, h.n1, h.n2, h.n3⟩
theorem T8.putO (h : T8 W rs cs os v14 v15 (.slice (some ⟨g, 0, none⟩) n c) wr) (j x : Nat) : T8 W rs cs (os.set j x) v14 v15 (.slice (some ⟨g, 0, none⟩) n c) (wr.setCell ⟨g, j, none⟩ (.int .i64 (x : Int))) :=
  ⟨h.b.setCell h.o.blockEq.1 _, ownI_at h.r (fun e => h.n2 g e.symm rfl) j _, ownI_at h.c (fun e => h.n3 g e.symm rfl) j _, h.o.storedN j x, h.n1, h.n2, h.n3⟩
end

/-! ### the loop's lists -/
def csAt (bs : List Nat) (I J k : Nat) : List Nat := (bs.take k).map (colSw I J) ++ bs.drop k
def osAt (bs : List Nat) (k c : Nat) : List Nat := (List.range bs.length).map fun a => tcol bs a (if a < c then k + 1 else k)
theorem csAt_length (bs : List Nat) (I J k : Nat) : (csAt bs I J k).length = bs.length := by
  unfold csAt; rw [List.length_append, List.length_map, List.length_take, List.length_drop]; omega
theorem csAt_zero (bs : List Nat) (I J : Nat) : csAt bs I J 0 = bs := by simp [csAt]
theorem csAt_end (bs : List Nat) (I J : Nat) : csAt bs I J bs.length = colsSw bs I J := by simp [csAt, colsSw]
theorem csAt_get (bs : List Nat) (I J k : Nat) (hk : k < bs.length) (h : k < (csAt bs I J k).length) : (csAt bs I J k)[k] = bs[k] := by
  have e : (csAt bs I J k)[k]? = some bs[k] := by
    have hl : ((bs.take k).map (colSw I J)).length = k := by rw [List.length_map, List.length_take]; omega
    unfold csAt
    rw [List.getElem?_append_right (by omega), hl, Nat.sub_self, List.getElem?_drop, Nat.add_zero, List.getElem?_eq_getElem hk]
  exact (List.getElem?_eq_some_iff.1 e).2
theorem csAt_succ (bs : List Nat) (I J k : Nat) (hk : k < bs.length) : csAt bs I J (k + 1) = (csAt bs I J k).set k (colSw I J bs[k]) := by
  have hl : ((bs.take k).map (colSw I J)).length = k := by rw [List.length_map, List.length_take]; omega
  unfold csAt
  rw [take_succ' bs k hk, List.map_append, List.append_assoc, List.drop_eq_getElem_cons hk, List.set_append_right _ _ (by omega), hl, Nat.sub_self]
  rfl
theorem csAt_same (bs : List Nat) (I J k : Nat) (hk : k < bs.length) (h : colSw I J bs[k] = bs[k]) : csAt bs I J (k + 1) = csAt bs I J k := by
  rw [csAt_succ bs I J k hk, h]
  have := csAt_get bs I J k hk (by rw [csAt_length]; exact hk)
  conv => lhs; rw [← this]
  exact List.set_getElem_self _
theorem osAt_length (bs : List Nat) (k c : Nat) : (osAt bs k c).length = bs.length := by simp [osAt]
theorem osAt_zero (bs : List Nat) : osAt bs 0 0 = List.replicate bs.length 0 := by
  unfold osAt
  rw [List.map_congr_left (g := fun _ => 0) (fun a _ => by simp [tcol])]
  simp [List.map_const']
theorem osAt_turn (bs : List Nat) (k : Nat) : osAt bs k bs.length = osAt bs (k + 1) 0 := by
  unfold osAt
  refine List.map_congr_left fun a ha => ?_
  rw [if_pos (List.mem_range.1 ha), if_neg (by omega)]
theorem osAt_end (bs : List Nat) : osAt bs bs.length 0 = overB bs := by
  unfold osAt overB
  refine List.map_congr_left fun a _ => ?_
  rw [if_neg (by omega)]
theorem osAt_get (bs : List Nat) (k c : Nat) (h : c < (osAt bs k c).length) : (osAt bs k c)[c] = tcol bs c k := by simp [osAt]
theorem osAt_succ (bs : List Nat) (k c : Nat) : osAt bs k (c + 1) = (osAt bs k c).set c (tcol bs c (k + 1)) := by
  refine List.ext_getElem (by simp [osAt]) fun a h1 h2 => ?_
  rw [List.getElem_set]
  simp only [osAt, List.getElem_map, List.getElem_range]
  by_cases e : c = a
  · subst e; simp
  · rw [if_neg e]
    by_cases e2 : a < c
    · rw [if_pos (by omega), if_pos e2]
    · rw [if_neg (by omega), if_neg e2]
theorem xor_walk : ∀ i : Nat, i < 6 → ∀ j : Nat, j < 6 → ∀ r : Nat, r < 64 → bits BinOp.xor IntKind.i64 (r : Int) (bits BinOp.or IntKind.i64 ((2 : Int) ^ i) ((2 : Int) ^ j)) = ((r ^^^ (2 ^ i ||| 2 ^ j) : Nat) : Int) := by decide +kernel
theorem over_walk0 : ∀ k : Nat, k < 6 → ∀ o : Nat, o < 64 → bits BinOp.or IntKind.i64 (o : Int) 0 = ((o ||| (0 <<< k) : Nat) : Int) := by decide +kernel
theorem over_walk1 : ∀ k : Nat, k < 6 → ∀ o : Nat, o < 64 → bits BinOp.or IntKind.i64 (o : Int) ((2 : Int) ^ k) = ((o ||| (1 <<< k) : Nat) : Int) := by decide +kernel

theorem bit_nat (r c : Nat) : ((r >>> c) &&& 1) = if r.testBit c then 1 else 0 := by
  rw [Nat.testBit_eq_decide_div_mod_eq, Nat.and_one_is_mod, Nat.shiftRight_eq_div_pow]
  rcases Nat.mod_two_eq_zero_or_one (r / 2 ^ c) with h | h <;> rw [h] <;> rfl
theorem tcol_step {bs : List Nat} {k r : Nat} (c : Nat) (hk : k < bs.length) (h : bs[k] = r) : tcol bs c (k + 1) = tcol bs c k ||| ((if r.testBit c then 1 else 0) <<< k) := by
  rw [tcol, getD_at hk, h, bit_nat]

theorem three_cells (w : World) (a b c : Value) (t : TypeId) : (w.alloc (.cells #[a, b, c] t)).cell? ⟨w.heap.size, 0, none⟩ = some a ∧ (w.alloc (.cells #[a, b, c] t)).cell? ⟨w.heap.size, 1, none⟩ = some b ∧ (w.alloc (.cells #[a, b, c] t)).cell? ⟨w.heap.size, 2, none⟩ = some c := by simp
/-- What the last loop needs of a turned board. -/
def Turn (bs : List Nat) (rl : List Nat) (re k : Nat) (L : List Nat) : Prop := IsBoard L ∧ numL L 0 = numL bs 0 ∧ hitsL L = hitsL bs ∧ (resHt L).2 = re ∧ (k < 2 → (resHt L).1 = rl)
theorem turn_of {bs rl : List Nat} {re I J : Nat} (h : IsBoard bs) (hI : I < bs.length) (hJ : J < bs.length) (hA : resHt bs = (rl, re)) :
    Turn bs rl re 0 (rowsSw bs I J) ∧ Turn bs rl re 1 (colsSw bs I J) ∧ Turn bs rl re 2 (overB bs) := by
  obtain ⟨a1, a2, a3, a4⟩ := rows_turned h I J hI hJ
  obtain ⟨b1, b2, b3, b4⟩ := cols_turned h I J hI hJ
  obtain ⟨c1, c2, c3, c4⟩ := over_turned h
  exact ⟨⟨a1, a2, a3, by rw [a4, hA], fun _ => by rw [a4, hA]⟩, ⟨b1, b2, b3, by rw [b4, hA], fun _ => by rw [b4, hA]⟩, ⟨c1, c2, c3, by rw [c4, hA], fun h => by omega⟩⟩

theorem rooks_turn {bs L : List Nat} (w : World) (hL : IsBoard L) (hN : numL L 0 = numL bs 0) (ht : Tab w) (v' : Value) (w' : World) (hb : Ints w' v' (toI L)) (hw : Below w.heap.size w w') :
    Calls Tryd.prog 14 #[v'] w' fun e w2 => ∃ v2, e = .returned (.tuple #[v2, .int .i64 0]) ∧ OwnI 3 w'.heap.size w2 v2 (toI (numL bs 0)) ∧ Below w'.heap.size w' w2 := by
  have := Rooks_yes v' L w' hb hL (ht.below hw)
  rw [hN] at this
  exact this
theorem hits_turn {bs L : List Nat} (w : World) (hL : IsBoard L) (hN : hitsL L = hitsL bs) (ht : Tab w) (v' : Value) (w' : World) (hb : Ints w' v' (toI L)) (hw : Below w.heap.size w w') :
    Calls Tryd.prog 23 #[v'] w' fun e w2 => ∃ v2, e = .returned (.tuple #[v2, .int .i64 0]) ∧ OwnI 3 w'.heap.size w2 v2 (toI (hitsL bs)) ∧ Below w'.heap.size w' w2 := by
  have := Hits_yes v' L w' hb hL (ht.below hw)
  rw [hN] at this
  exact this
theorem heights_turn {L M : List Nat} {re : Nat} (hL : IsBoard L) (hM : (resHt L).1 = M) (hN : (resHt L).2 = re) (v' : Value) (w' : World) (hb : Ints w' v' (toI L)) :
    Calls Tryd.prog 36 #[v'] w' fun e w2 => ∃ v2, e = .returned (.tuple #[v2, .int .i64 (re : Nat)]) ∧ OwnI 3 w'.heap.size w2 v2 (toI M) ∧ Below w'.heap.size w' w2 := by
  have := Heights_yes v' L w' hb hL
  unfold HtIs at this
  rw [hM, hN] at this
  exact this

theorem resHt_re (bs : List Nat) : (resHt bs).2 = 0 ∨ (resHt bs).2 = 4 := by
  unfold resHt
  split
  · exact .inl rfl
  · exact .inr rfl

abbrev zB (n : Nat) : Obj := .cells ((toI (List.replicate n 0)).map (Value.int .i64)).toArray 3
theorem t8_a {W w1 w2 : World} {bs : List Nat} {v73 v75 : Value} (hn : bs.length ≤ 6) (h1 : OwnI 3 W.heap.size w1 v73 (toI bs)) (b1 : Below W.heap.size W w1) (h2 : OwnI 3 w1.heap.size w2 v75 (toI bs)) (b2 : Below w1.heap.size w1 w2) :
    T8 W bs bs (List.replicate bs.length 0) v73 v75 (.slice (some ⟨w2.heap.size, 0, none⟩) bs.length bs.length) (w2.alloc (zB bs.length)) := by
  have z1 := b1.size
  have z2 := b2.size
  refine ⟨(b1.trans (b2.mono z1)).alloc (by omega) _, (h1.below b2).alloc _, (h2.mono z1).alloc _, own_zeros _ _ (by omega) (by unfold maxLen; omega), fun k e1 e2 => ?_, fun k e1 e2 => ?_, fun k e1 e2 => ?_⟩
  · have := (h1.lt k e1).2; have := (h2.lt k e2).1; omega
  · have := (h1.lt k e1).2; simp [Value.ownBlock] at e2; omega
  · have := (h2.lt k e1).2; simp [Value.ownBlock] at e2; omega
theorem t8_b {W w1 w2 : World} {bs : List Nat} {v73 v75 : Value} (hn : bs.length ≤ 6) (h1 : OwnI 3 W.heap.size w1 v73 (toI bs)) (b1 : Below W.heap.size W w1) (h2 : OwnI 3 (w1.alloc (zB bs.length)).heap.size w2 v75 (toI bs)) (b2 : Below (w1.alloc (zB bs.length)).heap.size (w1.alloc (zB bs.length)) w2) :
    T8 W bs bs (List.replicate bs.length 0) v73 v75 (.slice (some ⟨w1.heap.size, 0, none⟩) bs.length bs.length) w2 := by
  have z1 := b1.size
  have z2 := b2.size
  have z3 : (w1.alloc (zB bs.length)).heap.size = w1.heap.size + 1 := by simp
  refine ⟨(b1.alloc z1 _).trans (b2.mono (by omega)), (h1.alloc _).below b2, h2.mono (by omega), (own_zeros w1 _ (by omega) (by unfold maxLen; omega)).below b2, fun k e1 e2 => ?_, fun k e1 e2 => ?_, fun k e1 e2 => ?_⟩
  · have := (h1.lt k e1).2; have := (h2.lt k e2).1; omega
  · have := (h1.lt k e1).2; simp [Value.ownBlock] at e2; omega
  · have := (h2.lt k e1).1; simp [Value.ownBlock] at e2; omega
theorem t8_c {W w1 w2 : World} {bs : List Nat} {v73 v75 : Value} (hn : bs.length ≤ 6) (h1 : OwnI 3 (W.drew.alloc (zB bs.length)).heap.size w1 v73 (toI bs)) (b1 : Below (W.drew.alloc (zB bs.length)).heap.size (W.drew.alloc (zB bs.length)) w1) (h2 : OwnI 3 w1.heap.size w2 v75 (toI bs)) (b2 : Below w1.heap.size w1 w2) :
    T8 W bs bs (List.replicate bs.length 0) v73 v75 (.slice (some ⟨W.heap.size, 0, none⟩) bs.length bs.length) w2 := by
  have z1 := b1.size
  have z2 := b2.size
  have z3 : (W.drew.alloc (zB bs.length)).heap.size = W.heap.size + 1 := by simp
  have b0 : Below W.heap.size W (W.drew.alloc (zB bs.length)) := (Below.refl _ _).drew.alloc (Nat.le_refl _) _
  refine ⟨(b0.trans (b1.mono (by omega))).trans (b2.mono (by omega)), (h1.below b2).mono (by omega), h2.mono (by omega), ((own_zeros W.drew _ (Nat.le_refl _) (by unfold maxLen; omega)).below b1).below b2, fun k e1 e2 => ?_, fun k e1 e2 => ?_, fun k e1 e2 => ?_⟩
  · have := (h1.lt k e1).2; have := (h2.lt k e2).1; omega
  · have := (h1.lt k e1).1; simp [Value.ownBlock] at e2; omega
  · have := (h2.lt k e1).1; simp [Value.ownBlock] at e2; omega

set_option maxRecDepth 20000 in
set_option maxHeartbeats 4000000 in
theorem Turned_yes (v : Value) (bs : List Nat) (i j : Int) (w : World) (hv : Ints w v (toI bs)) (ht : Tab w) (h : IsBoard bs) :
    Calls Tryd.prog 11 #[v, .int .i64 i, .int .i64 j] w (True1 w) := by
  have C15 := Lib.hid (fun w' (hb : Below w.heap.size w w') => by have := list_any v _ w' (hv.below hb); rw [take_board h] at this; exact this)
  have C14 := Lib.hid (fun v' w' (hb : Ints w' v' (toI bs)) (hw : Below w.heap.size w w') => Rooks_yes v' bs w' hb h (ht.below hw))
  have C23 := Lib.hid (fun v' w' (hb : Ints w' v' (toI bs)) (hw : Below w.heap.size w w') => Hits_yes v' bs w' hb h (ht.below hw))
  have C36 := Lib.hid (fun v' w' (hb : Ints w' v' (toI bs)) => Heights_yes v' bs w' hb h)
  have C17 := Lib.hid (fun w' (hb : Below w.heap.size w w') => by have := Board_any v _ w' (hv.below hb); rw [boardB_board h] at this; exact this)
  have C18 := Lib.hid (fun w' (hb : Below w.heap.size w w') => awake_any w' (ht.below hb))
  have C40 := Lib.hid (fun v' (xs : List Int) w' (hb : Ints w' v' xs) => Clone_any v' xs w' hb)
  have C20 := Lib.hid (fun v1 v2 (xs : List Int) w' (h1 : Ints w' v1 xs) (h2 : Ints w' v2 xs) => by have := Equal_any v1 v2 _ _ w' h1 h2; rw [show decide (xs = xs) = true by simp] at this; exact this)
  have hl9 : (toI bs).length ≤ 17592186044416 := hv.len
  unfold HtIs at C36
  obtain ⟨A, hA⟩ : ∃ A, resHt bs = A := ⟨_, rfl⟩
  have hlH : (toI A.1).length ≤ 17592186044416 := by rw [← hA, toI_length]; have := resHt_len bs; have := h.le; omega
  rw [hA] at C36
  obtain ⟨rl, re⟩ := A
  have HA := Lib.hid hA
  have HT := Lib.hid ht
  have HB := Lib.hid h
  have n6 := h.le
  have n1 := h.pos
  obtain ⟨a, c, rfl, hlen, hcl, hc⟩ := hv.openN
  have HC := Lib.hid hc
  have hb0 := Below.refl w.heap.size w
  clear hc ht h hA hv
  go_enter Tryd.func11, Tryd.ntmps11
  go_upto_region 7 with (first
      | (go_at_call 36; refine (C36.out v5 w5 (ho5.ints hl9)).mono ?_; rintro e w6 ⟨v6, rfl, ho6, hb6'⟩; have hb6 := hb5.trans (hb6'.mono hb5.size))
      | (go_at_call 15; refine (C15.out w4 hb4).mono ?_; rintro e w5 ⟨v5, rfl, ho5, hb5'⟩; have hb5 := hb4.trans (hb5'.mono hb4.size))
      | (go_at_call 23; refine (C23.out v3 w3 (ho3.ints hl9) hb3).mono ?_; rintro e w4 ⟨v4, rfl, ho4, hb4'⟩; have hb4 := hb3.trans (hb4'.mono hb3.size))
      | (go_at_call 15; refine (C15.out w2 hb2).mono ?_; rintro e w3 ⟨v3, rfl, ho3, hb3'⟩; have hb3 := hb2.trans (hb3'.mono hb2.size))
      | (go_at_call 17; refine (C17.out w2 hb2).mono ?_; rintro e w2b ⟨rfl, rfl⟩; have tok8 : True := trivial)
      | (go_at_call 14; refine (C14.out v1 w1 (ho1.ints hl9) hb1).mono ?_; rintro e w2 ⟨v2, rfl, ho2, hb2'⟩; have hb2 := hb1.trans (hb2'.mono hb1.size))
      | (go_at_call 15; refine (C15.out w hb0).mono ?_; rintro e w1 ⟨v1, rfl, ho1, hb1'⟩; have hb1 := hb1'))
  have hn0 : (0 : Int) < (bs.length : Int) := by omega
  have hn6 : (bs.length : Int) ≤ 6 := by omega
  go_quiet (fail)
  obtain ⟨I, hI, eI⟩ := modI_w i bs.length n1 n6
  obtain ⟨J, hJ, eJ⟩ := modI_w j bs.length n1 n6
  go_upto_region 8 with (fail)
  rw [eI, eJ]
  clear eI eJ
  obtain ⟨W, hW⟩ : ∃ W, w6.drewN nq = W := ⟨_, rfl⟩
  have hbW : Below w.heap.size w W := by rw [← hW]; exact below_drewN hb6 _
  have hz := hbW.size
  have hW6 : Below w6.heap.size w6 W := by rw [← hW]; exact below_drewN (Below.refl _ _) _
  have hlN : (toI (numL bs 0)).length ≤ 17592186044416 := by rw [toI_length, numL_length]; omega
  have hlG : (toI (hitsL bs)).length ≤ 17592186044416 := by rw [toI_length, hitsL_length]; omega
  have K2 := Lib.hid (fun w' (hb : Below W.heap.size W w') => ((((((ho2.below hb3').below hb4').below hb5').below hb6').below hW6).below hb).ints hlN)
  have K4 := Lib.hid (fun w' (hb : Below W.heap.size W w') => ((((ho4.below hb5').below hb6').below hW6).below hb).ints hlG)
  have K6 := Lib.hid (fun w' (hb : Below W.heap.size W w') => ((ho6.below hW6).below hb).ints hlH)
  clear hW6
  have CL := Lib.hid (fun w' (hb : Below W.heap.size W w') => C15.out w' (hbW.trans (hb.mono hz)))
  rw [hW]
  clear hW
  go_cut [14, 15, 16] from 72 to 77 (fun v14 v15 v16 wr => T8 W bs bs (List.replicate bs.length 0) v14 v15 v16 wr)
  case first =>
    have MK := make_ints bs.length (by omega)
    go_region_with (first
      | (go_at_call 15; have tk := ho73; refine (CL.out _ (by first | exact hb73 | exact hb73.alloc hz73 _)).mono ?_; rintro e w2 ⟨v75, rfl, ho75, hb75⟩)
      | (go_at_call 15; refine (CL.out _ (by first | exact (Below.refl _ _).drew | exact ((Below.refl _ _).drew).alloc (by simp) _)).mono ?_; rintro e w1 ⟨v73, rfl, ho73, hb73'⟩; have hb73 : Below W.heap.size W w1 := (by first | exact (Below.refl _ _).drew.trans (hb73'.mono (by simp)) | exact (((Below.refl _ _).drew).alloc (by simp) _).trans (hb73'.mono (by simp))); have hz73 := hb73.size))
    all_goals (go_wp2_with fail; go_meet)
    · exact t8_a n6 ho73 hb73 ho75 hb75
    · exact t8_b n6 ho73 hb73 ho75 hb75
    · exact t8_c n6 ho73 hb73' ho75 hb75
  case rest =>
    obtain ⟨g14, c14, e14⟩ := hcut.r.row1 n1
    obtain ⟨g15, c15, e15⟩ := hcut.c.row1 n1
    obtain ⟨g16, c16, e16⟩ := hcut.o.row1 (by simpa using n1)
    rw [List.length_replicate] at e16
    subst e14 e15 e16
    have HT8 := Lib.hid hcut
    have ci := hcut.r.cellN I hI
    have cj := hcut.r.cellN J hJ
    have fi := hcut.r.frozenN I
    have fj := hcut.r.frozenN J
    have hI0 : (0 : Int) ≤ (I : Int) := Int.natCast_nonneg _
    have hJ0 : (0 : Int) ≤ (J : Int) := Int.natCast_nonneg _
    have hIn : (I : Int) < (bs.length : Int) := by omega
    have hJn : (J : Int) < (bs.length : Int) := by omega
    clear hcut
    obtain ⟨x, hx⟩ : ∃ x, bs[I] = x := ⟨_, rfl⟩
    obtain ⟨y, hy⟩ : ∃ y, bs[J] = y := ⟨_, rfl⟩
    rw [hx] at ci
    rw [hy] at cj
    have HX := Lib.hid hx
    have HY := Lib.hid hy
    have HXY := Lib.hid (show I = J → y = x from fun h => by subst h; rw [← hx, ← hy])
    clear hx hy
    go_upto_region 9 with (fail)
    have hrs : rowsSw bs I J = (bs.set I y).set J x := by unfold rowsSw; rw [getD_at hI, getD_at hJ, HX.out, HY.out]
    have HRS := Lib.hid hrs
    clear hrs
    go_cut [1, 2] from 78 to 91 (fun vI vJ wr => vI = .int .i64 (I : Int) ∧ vJ = .int .i64 (J : Int) ∧ T8 W (rowsSw bs I J) bs (List.replicate bs.length 0) (.slice (some ⟨g14, 0, none⟩) bs.length c14) (.slice (some ⟨g15, 0, none⟩) bs.length c15) (.slice (some ⟨g16, 0, none⟩) bs.length c16) wr)
    case first =>
      by_cases e : I = J
      · obtain rfl := HXY.out e
        subst e
        go_region
        all_goals (go_wp2_with fail; go_meet)
        all_goals exact ⟨rfl, rfl, by rw [HRS.out]; exact (HT8.out.drew.putR I y).putR I y⟩
      · have e' : ¬ J = I := fun h => e h.symm
        go_region
        all_goals (go_wp2_with fail; go_meet)
        all_goals exact ⟨rfl, rfl, by rw [HRS.out]; exact (HT8.out.drew.putR I y).putR J x⟩
    case rest =>
      obtain ⟨rfl, rfl, h9⟩ := hcut
      have H9 := Lib.hid h9
      clear h9 fi fj ci cj
      go_wp2
      go_loopw [94] (fun ix wr => ∃ k : Nat, k ≤ bs.length ∧ ix = .int .i64 k ∧ T8 W (rowsSw bs I J) (csAt bs I J k) (osAt bs k 0) (.slice (some ⟨g14, 0, none⟩) bs.length c14) (.slice (some ⟨g15, 0, none⟩) bs.length c15) (.slice (some ⟨g16, 0, none⟩) bs.length c16) wr) (fun ix _ => bs.length - (intOf ix).toNat)
      case atStart => exact ⟨0, Nat.zero_le _, rfl, by rw [csAt_zero, osAt_zero]; exact H9.out⟩
      case round =>
        obtain ⟨k, hk, rfl, h10⟩ := hrel
        by_cases hlt : k < bs.length
        · obtain ⟨b, off, rfl, hbl, hcell⟩ := HC.out (ne_nil_of_lt hlt)
          have hcx := (((hbW.trans (h10.b.mono hz))).cell (p := ⟨b, off + k, none⟩) hbl).trans (hcell k hlt)
          have hr := HB.out.lt _ (List.getElem_mem hlt)
          have HS := Lib.hid (csAt_succ bs I J k hlt)
          have HSS := Lib.hid (csAt_same bs I J k hlt)
          have hcc := h10.c.cellN k (by rw [csAt_length]; exact hlt)
          have hcf := h10.c.frozenN k
          rw [csAt_get bs I J k hlt] at hcc
          have HBW := Lib.hid (fun (r c : Nat) (h : bs[k] = r) => tcol_step c hlt h)
          obtain ⟨r, hrr⟩ : ∃ r, bs[k] = r := ⟨_, rfl⟩
          rw [hrr] at hcx hr HS HSS hcc
          have HRR := Lib.hid hrr
          have H10 := Lib.hid h10
          have hki : (k : Int) < (bs.length : Int) := by omega
          have hk0 : (0 : Int) ≤ (k : Int) := Int.natCast_nonneg _
          clear h10 hcell hrr
          have HCW := Lib.hid (show (r.testBit I == r.testBit J) = false → colSw I J r = r ^^^ (2 ^ I ||| 2 ^ J) from fun h => by unfold colSw; rw [h]; rfl)
          have HCS := Lib.hid (show (r.testBit I == r.testBit J) = true → colSw I J r = r from fun h => by unfold colSw; rw [h]; rfl)
          have bI := bit_walk I (by omega) r hr
          have bJ := bit_walk J (by omega) r hr
          have p1 := pow_in I (by omega)
          have p2 := pow_in J (by omega)
          have q1 := xor_walk I (by omega) J (by omega) r hr
          go_upto_region 13 with (fail)
          go_cut [107] from 99 to 106 (fun x wq => x = .bool (r.testBit I != r.testBit J) ∧ T8 W (rowsSw bs I J) (csAt bs I J k) (osAt bs k 0) (.slice (some ⟨g14, 0, none⟩) bs.length c14) (.slice (some ⟨g15, 0, none⟩) bs.length c15) (.slice (some ⟨g16, 0, none⟩) bs.length c16) wq)
          case first =>
            clear q1 p1 p2
            cases hI2 : r.testBit I
            all_goals cases hJ2 : r.testBit J
            all_goals rw [hI2] at bI
            all_goals rw [hJ2] at bJ
            all_goals simp only [if_true, Bool.false_eq_true, if_false] at bI bJ
            all_goals have HI2 := Lib.hid hI2
            all_goals have HJ2 := Lib.hid hJ2
            all_goals clear hI2 hJ2
            all_goals go_quiet (fail)
            all_goals (go_wp2_with fail; go_meet)
            all_goals exact ⟨by rw [HI2.out, HJ2.out]; rfl, H10.out.drewN _⟩
          case rest =>
            clear bI bJ
            obtain ⟨rfl, h11⟩ := hcut
            have hcc := h11.c.cellN k (by rw [csAt_length]; exact hlt)
            have hcf := h11.c.frozenN k
            rw [csAt_get bs I J k hlt, HRR.out] at hcc
            have H11 := Lib.hid h11
            clear h11
            obtain ⟨bb, hbb⟩ : ∃ bb, (r.testBit I != r.testBit J) = bb := ⟨_, rfl⟩
            have HBB := Lib.hid hbb
            rw [hbb]
            clear hbb
            go_upto_if 107 with (fail)
            go_cut [17] from 108 to 118 (fun x wq => x = .int .i64 (k : Nat) ∧ T8 W (rowsSw bs I J) (csAt bs I J (k + 1)) (osAt bs k 0) (.slice (some ⟨g14, 0, none⟩) bs.length c14) (.slice (some ⟨g15, 0, none⟩) bs.length c15) (.slice (some ⟨g16, 0, none⟩) bs.length c16) wq)
            case first =>
              cases bb
              · go_wp2_with fail
                go_meet
                exact ⟨rfl, by rw [HSS.out (HCS.out (by have := HBB.out; simpa using this))]; exact H11.out⟩
              · go_upto_region 14 with (fail)
                have HQ := Lib.hid (H11.out.drew.putC k (r ^^^ (2 ^ I ||| 2 ^ J)))
                have HCK := Lib.hid (show csAt bs I J (k + 1) = (csAt bs I J k).set k (r ^^^ (2 ^ I ||| 2 ^ J)) by rw [HS.out, HCW.out (by have := HBB.out; simpa using this)])
                go_still_tail 11, (by kernel_rfl)
                go_wp2_with fail
                go_meet
                exact ⟨rfl, by rw [HCK.out]; exact HQ.out⟩
            case rest =>
              obtain ⟨rfl, h12⟩ := hcut
              have hz12 := h12.b.size
              obtain ⟨wo, rfl⟩ : ∃ wo : World, wo = wc := ⟨_, rfl⟩
              have H12 := Lib.hid h12
              clear hcc hcf q1 p1 p2 h12
              go_upto_region 16 with (fail)
              go_loopw [120] (fun ix wq => ∃ c0 : Nat, c0 ≤ bs.length ∧ ix = .int .i64 c0 ∧ T8 W (rowsSw bs I J) (csAt bs I J (k + 1)) (osAt bs k c0) (.slice (some ⟨g14, 0, none⟩) bs.length c14) (.slice (some ⟨g15, 0, none⟩) bs.length c15) (.slice (some ⟨g16, 0, none⟩) bs.length c16) wq) (fun ix _ => bs.length - (intOf ix).toNat)
              case atStart => exact ⟨0, Nat.zero_le _, rfl, H12.out⟩
              case round =>
                obtain ⟨c0, hc0, rfl, h13⟩ := hrel
                by_cases hlc : c0 < bs.length
                · have hoc := h13.o.cellN c0 (by rw [osAt_length]; exact hlc)
                  have hof := h13.o.frozenN c0
                  rw [osAt_get bs k c0] at hoc
                  have ho64 : tcol bs c0 k < 64 := Nat.lt_of_lt_of_le (tcol_lt bs c0 k) (two_pow_le (by omega))
                  have HTS := Lib.hid (HBW.out r c0 HRR.out)
                  have HOS := Lib.hid (osAt_succ bs k c0)
                  obtain ⟨o, hoo⟩ : ∃ o, tcol bs c0 k = o := ⟨_, rfl⟩
                  rw [hoo] at hoc ho64 HTS
                  have hci : (c0 : Int) < (bs.length : Int) := by omega
                  have hci0 : (0 : Int) ≤ (c0 : Int) := Int.natCast_nonneg _
                  have pk := pow_in k (by omega)
                  have bc := bit_walk c0 (by omega) r hr
                  have o0 := over_walk0 k (by omega) o ho64
                  have o1 := over_walk1 k (by omega) o ho64
                  have HQ := Lib.hid (fun x => h13.drew.putO c0 x)
                  clear h13 hoo
                  cases hb2 : r.testBit c0
                  all_goals rw [hb2] at bc HTS
                  all_goals simp only [if_true, Bool.false_eq_true, if_false] at bc HTS
                  all_goals clear hb2
                  · clear o1
                    go_upto_region 18 with (fail)
                    go_still_tail 12, (by kernel_rfl)
                    go_wp2
                    refine ⟨⟨c0 + 1, by omega, by push_cast; rfl, by rw [HOS.out, HTS.out, Nat.zero_shiftLeft, Nat.or_zero]; exact HQ.out _⟩, by simp [intOf]; omega⟩
                  · clear o0
                    go_upto_region 18 with (fail)
                    go_still_tail 12, (by kernel_rfl)
                    go_wp2
                    refine ⟨⟨c0 + 1, by omega, by push_cast; rfl, by rw [HOS.out, HTS.out]; exact HQ.out _⟩, by simp [intOf]; omega⟩
                · obtain rfl : c0 = bs.length := by omega
                  have H13 := Lib.hid h13
                  have hci : ¬ ((bs.length : Nat) : Int) < (bs.length : Int) := by omega
                  clear h13
                  go_wp2
                  refine ⟨⟨k + 1, by omega, by push_cast; rfl, by rw [← osAt_turn]; exact H13.out⟩, by simp [intOf]; omega⟩
        · obtain rfl : k = bs.length := by omega
          have hki : ¬ ((bs.length : Nat) : Int) < (bs.length : Int) := by omega
          rw [csAt_end, osAt_end] at h10
          obtain ⟨t0, t1, t2⟩ := turn_of HB.out hI hJ HA.out
          have d := three_cells wr (.slice (some ⟨g14, 0, none⟩) bs.length c14) (.slice (some ⟨g15, 0, none⟩) bs.length c15) (.slice (some ⟨g16, 0, none⟩) bs.length c16) 22
          obtain ⟨W3, hW3⟩ : ∃ W3, wr.alloc (Obj.cells #[.slice (some ⟨g14, 0, none⟩) bs.length c14, .slice (some ⟨g15, 0, none⟩) bs.length c15, .slice (some ⟨g16, 0, none⟩) bs.length c16] 22) = W3 := ⟨_, rfl⟩
          have hw3 : Below wr.heap.size wr W3 := by rw [← hW3]; exact (Below.refl _ _).alloc (Nat.le_refl _) _
          have hb3W : Below W.heap.size W W3 := h10.b.trans (hw3.mono h10.b.size)
          have hlt3 : wr.heap.size < W3.heap.size := by rw [← hW3]; simp
          rw [hW3] at d
          have HK := Lib.hid (show ∀ k : Nat, k < 3 → ∃ u L, W3.cell? ⟨wr.heap.size, k, none⟩ = some u ∧ Ints W3 u (toI L) ∧ Turn bs rl re k L from fun k hk => by
            have hl6 : ∀ L : List Nat, IsBoard L → (toI L).length ≤ 17592186044416 := fun L h => by rw [toI_length]; have := h.le; omega
            match k, hk with
            | 0, _ => exact ⟨_, _, d.1, (h10.r.below hw3).ints (hl6 _ t0.1), t0⟩
            | 1, _ => exact ⟨_, _, d.2.1, (h10.c.below hw3).ints (hl6 _ t1.1), t1⟩
            | 2, _ => exact ⟨_, _, d.2.2, (h10.o.below hw3).ints (hl6 _ t2.1), t2⟩)
          have hz3 := hb3W.size
          have HB3 := Lib.hid hb3W
          have HW3 := Lib.hid hW3
          clear h10 d t0 t1 t2 hw3 hW3
          go_upto_region 22 with (fail)
          rw [HW3.out]
          clear HW3
          obtain ⟨B3, hB3⟩ : ∃ B3, wr.heap.size = B3 := ⟨_, rfl⟩
          rw [hB3] at HK hlt3 ⊢
          clear hB3
          go_loopw [142] (fun ix wq => ∃ k : Nat, k ≤ 3 ∧ ix = .int .i64 k ∧ Below W3.heap.size W3 wq) (fun ix _ => 3 - (intOf ix).toNat)
          case atStart => exact ⟨0, by omega, rfl, Below.refl _ _⟩
          case round =>
            obtain ⟨w30, rfl⟩ : ∃ w30 : World, w30 = wr := ⟨_, rfl⟩
            obtain ⟨k, hk, rfl, hb30⟩ := hrel
            have hq0 : Below W.heap.size W w30 := HB3.out.trans (hb30.mono hz3)
            have hqw0 : Below w.heap.size w w30 := hbW.trans (hq0.mono hz)
            by_cases hlt : k < 3
            · obtain ⟨u, L, hcu, hu, hL, hN, hH, hR2, hR1⟩ := HK.out k hlt
              have hcu3 := (hb30.cell (p := ⟨B3, k, none⟩) hlt3).trans hcu
              have hu3 := hu.below hb30
              obtain ⟨M, hM⟩ : ∃ M, (resHt L).1 = M := ⟨_, rfl⟩
              have D14 := Lib.hid (rooks_turn w hL hN HT.out)
              have D23 := Lib.hid (hits_turn w hL hH HT.out)
              have D36 := Lib.hid (heights_turn hL hM hR2)
              have hl6L : (toI L).length ≤ 17592186044416 := by rw [toI_length]; have := hL.le; omega
              have hlR : (toI M).length ≤ 17592186044416 := by rw [← hM, toI_length]; have := resHt_len L; have := hL.le; omega
              rw [hM] at hR1
              have HU := Lib.hid (fun w' (hb : Below w30.heap.size w30 w') => hu3.below hb)
              have hki : (k : Int) < 3 := by omega
              have hk0 : (0 : Int) ≤ (k : Int) := Int.natCast_nonneg _
              obtain ⟨au, cu, rfl, hu1, hu2, _⟩ := hu3.openN
              clear hu3
              have hb0' := Below.refl w30.heap.size w30
              have HR1 := Lib.hid hR1
              clear hcu hu hL hN hH hR2 hR1 hM
              go_upto_region 27 with (first
                | (go_at_call 36; refine (D36.out v35 w35 (ho35.ints hl6L)).mono ?_; rintro e w36 ⟨v36, rfl, ho36, hb36'⟩; have hb36 := hb35.trans (hb36'.mono hb35.size))
                | (go_at_call 40; refine (C40.out _ _ w34 (HU.out w34 hb34)).mono ?_; rintro e w35 ⟨v35, rfl, ho35, hb35'⟩; have hb35 := hb34.trans (hb35'.mono hb34.size))
                | (go_at_call 23; refine (D23.out v33 w33 (ho33.ints hl6L) (hqw0.trans (hb33.mono hqw0.size))).mono ?_; rintro e w34 ⟨v34, rfl, ho34, hb34'⟩; have hb34 := hb33.trans (hb34'.mono hb33.size))
                | (go_at_call 40; refine (C40.out _ _ w32 (HU.out w32 hb32)).mono ?_; rintro e w33 ⟨v33, rfl, ho33, hb33'⟩; have hb33 := hb32.trans (hb33'.mono hb32.size))
                | (go_at_call 14; refine (D14.out v31 w31 (ho31.ints hl6L) (hqw0.trans (hb31.mono hqw0.size))).mono ?_; rintro e w32 ⟨v32, rfl, ho32, hb32'⟩; have hb32 := hb31.trans (hb32'.mono hb31.size))
                | (go_at_call 40; refine (C40.out _ _ w30 (HU.out w30 hb0')).mono ?_; rintro e w31 ⟨v31, rfl, ho31, hb31'⟩; have hb31 := hb31'))
              have A1 := Lib.hid (((((ho32.below hb33').below hb34').below hb35').below hb36').ints hlN)
              have A2 := Lib.hid (((ho34.below hb35').below hb36').ints hlG)
              have A3 := Lib.hid (ho36.ints hlR)
              have hqW : Below W.heap.size W w36 := hq0.trans (hb36.mono hq0.size)
              have hqz := hqW.size
              clear ho31 ho32 ho33 ho34 ho35 ho36 hb31 hb32 hb33 hb34 hb35 hb31' hb32' hb33' hb34' hb35' hb36'
              by_cases hlt2 : k < 2
              · have hki2 : (k : Int) < 2 := by omega
                have e := HR1.out hlt2
                subst e
                go_wp2_with (first
                  | (go_at_call 20; refine (C20.out v36 v6 _ w38 (A3.out.below hb38) (K6.out w38 (hqW.trans (hb38.mono hqz)))).mono ?_; rintro e w39 ⟨rfl, hb39'⟩; have hb39 := hb38.trans (hb39'.mono hb38.size))
                  | (go_at_call 20; refine (C20.out v34 v4 _ w37 (A2.out.below hb37) (K4.out w37 (hqW.trans (hb37.mono hqz)))).mono ?_; rintro e w38 ⟨rfl, hb38'⟩; have hb38 := hb37.trans (hb38'.mono hb37.size))
                  | (go_at_call 20; refine (C20.out v32 v2 _ w36 A1.out (K2.out w36 hqW)).mono ?_; rintro e w37 ⟨rfl, hb37⟩))
                refine ⟨⟨k + 1, by omega, by push_cast; rfl, (hb30.trans (hb36.mono hb30.size)).trans (hb39.mono (by have := hb30.size; have := hb36.size; omega))⟩, by simp [intOf]; omega⟩
              · have hki2 : ¬ (k : Int) < 2 := by omega
                go_wp2_with (first
                  | (go_at_call 20; refine (C20.out v34 v4 _ w37 (A2.out.below hb37) (K4.out w37 (hqW.trans (hb37.mono hqz)))).mono ?_; rintro e w38 ⟨rfl, hb38'⟩; have hb38 := hb37.trans (hb38'.mono hb37.size))
                  | (go_at_call 20; refine (C20.out v32 v2 _ w36 A1.out (K2.out w36 hqW)).mono ?_; rintro e w37 ⟨rfl, hb37⟩))
                refine ⟨⟨k + 1, by omega, by push_cast; rfl, (hb30.trans (hb36.mono hb30.size)).trans (hb38.mono (by have := hb30.size; have := hb36.size; omega))⟩, by simp [intOf]; omega⟩
            · obtain rfl : k = 3 := by omega
              have hre := resHt_re bs
              rw [HA.out] at hre
              have HRE := Lib.hid hre
              clear hre
              rcases HRE.out with h0 | h4
              · have h0' : re = 0 := h0
                subst h0'
                go_wp2_with (go_at_call 18; refine (C18.out w30 hqw0).mono ?_; rintro e w40 ⟨rfl, hb40⟩)
                go_ret
                exact ⟨rfl, hqw0.trans (hb40.mono hqw0.size)⟩
              · have h4' : re = 4 := h4
                subst h4'
                go_wp2_with (go_at_call 18; refine (C18.out w30 hqw0).mono ?_; rintro e w40 ⟨rfl, hb40⟩)
                go_ret
                exact ⟨rfl, hqw0.trans (hb40.mono hqw0.size)⟩

theorem rooksTurned_true (v : Value) (xs : List Int) (i j : Int) (w : World) (hv : Ints w v xs) (_ : -9223372036854775808 ≤ i ∧ i ≤ 9223372036854775807) (_ : -9223372036854775808 ≤ j ∧ j ≤ 9223372036854775807) (ht : Tab w) :
    Calls Tryd.prog 11 #[v, .int .i64 i, .int .i64 j] w (True1 w) := by
  cases hb : boardB xs with
  | false => exact Turned_no v xs i j w hv ht hb
  | true =>
    obtain ⟨bs, rfl, h⟩ := board_of hb
    exact Turned_yes v bs i j w hv ht h
end Go.Proofs.YtlpnicfbgdfbnaaDoor
