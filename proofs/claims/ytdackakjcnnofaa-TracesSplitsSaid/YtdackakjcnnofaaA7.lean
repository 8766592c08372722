/- Rd of the seat's texts, in this order. -/
import Derived.Test.YtdackakjcnnofaaA4
import Derived.Carry
import Derived.Deep.CutRange
import Derived.Test.YtdackakjcnnofaaA2
import Derived.Test.YtdackakjcnnofaaA5
import Derived.Test.YtdackakjcnnofaaA6

/- read: the walk. -/
namespace Go.Proofs.Ytdackakjcnnofaa
open Go.RowKit
attribute [local go_sem] Oper.semAt_some

/-- The group as read leaves it. -/
def PG (d : Nat) (E : List (List Nat)) (w : World) (bg : Nat) : Prop := ∃ H S vE bM vC vO vB, SrI d E H bg S w vE bM vC vO vB (classesN E) (ofL E E.length) (backC E) (primeN E d : Nat)
theorem PG.below {d : Nat} {E : List (List Nat)} {w w' : World} {bg : Nat} (h : PG d E w bg) (hb : Below w.heap.size w w') : PG d E w' bg := by
  obtain ⟨H, S, vE, bM, vC, vO, vB, hs⟩ := h
  exact ⟨H, S, vE, bM, vC, vO, vB, hs.below hb⟩
/-- What read returns. -/
def ReadOut (L : List (List Int)) (w : World) (e : Ending) (w' : World) : Prop :=
  Below w.heap.size w w' ∧ ((genQ L = false ∧ e = .returned (.tuple #[.pointer none, .int .i64 2])) ∨
    (genQ L = true ∧ ((Over (L.headD []).length (L.map natP) ∧ e = .returned (.tuple #[.pointer none, .int .i64 6])) ∨
      ∃ E bg, IsG (L.headD []).length (L.map natP) E ∧ e = .returned (.tuple #[.pointer (some ⟨bg, 0, none⟩), .int .i64 0]) ∧ PG (L.headD []).length E w' bg)))
def idP : List Int := [0, 1, 2, 3, 4]
theorem idP_el (d : Nat) (hd : d ≤ 5) : idP = elI d (oneP d) := by
  unfold elI
  rw [padP_one hd]; rfl
/-- A generator's cells. -/
theorem gen_splice {d : Nat} (hd : d ≤ 5) {p : List Int} (h : rowQ d p = true) : splice (cs5 idP) 0 (p.map (Value.int .i64)) = cs5 (elI d (natP p)) := by
  have hq := rowQ_iff.1 h
  have hn : toI (natP p) = p := natP_toI fun x hx => (hq.2.2.1 x hx).1
  have hl : p.length = d := hq.2.2.2.2
  unfold splice elI padP
  rw [toI_append, hn]
  unfold cs5
  rw [List.map_append, List.take_zero, List.nil_append, Nat.zero_add, List.length_map, hl]
  congr 1
  have hcase : d = 0 ∨ d = 1 ∨ d = 2 ∨ d = 3 ∨ d = 4 ∨ d = 5 := by omega
  rcases hcase with rfl | rfl | rfl | rfl | rfl | rfl <;> rfl
theorem map_take_snoc {α β : Type} (f : α → β) (l : List α) (k : Nat) (h : k < l.length) : (l.take (k + 1)).map f = (l.take k).map f ++ [f l[k]] := by
  rw [List.take_succ_eq_append_getElem h, List.map_append]; rfl
/-- The new group, its elements not yet made. -/
def grp0 (d : Nat) : List Value := [.int .i64 (d : Nat), .slice none 0 0, .map none, .slice none 0 0, .slice none 0 0, .slice none 0 0, .int .i64 0]

set_option maxRecDepth 100000 in
set_option maxHeartbeats 20000000 in
theorem read_any (v : Value) (L : List (List Int)) (w : World) (h : Args w v L) : Calls Try.prog 21 #[v] w (ReadOut L w) := by
  have HA := Lib.hid h
  have hL := h.len
  obtain ⟨a, c, rfl⟩ := h.form
  clear h
  by_cases h1 : L.length < 1
  · have HQ := Lib.hid (genQ_len (L := L) (.inl h1))
    have hd : decide (L.length < 1) = true := by simpa using h1
    have hz : L.length = 0 := by omega
    go_enter Try.func21, Try.ntmps21
    go_wp2
    go_ret2
    exact ⟨Below.refl _ _, .inl ⟨HQ.out, rfl⟩⟩
  · by_cases h4 : 4 < L.length
    · have HQ := Lib.hid (genQ_len (L := L) (.inr h4))
      go_enter Try.func21, Try.ntmps21
      go_wp2
      go_ret2
      exact ⟨Below.refl _ _, .inl ⟨HQ.out, rfl⟩⟩
    · have h0 : 0 < L.length := by omega
      have h0' := h0
      obtain ⟨b, off, c', u0, e0, hb, hc0, hu0⟩ := HA.out.at 0 h0
      obtain ⟨rfl, -, rfl⟩ := Value.slice.inj e0
      have HD := Lib.hid (show L[0] = L.headD [] by cases L with
        | nil => simp at h0
        | cons x L => rfl)
      obtain ⟨d, hd⟩ : ∃ d, (L.headD []).length = d := ⟨_, rfl⟩
      rw [HD.out] at hu0
      obtain ⟨a5, c5, rfl, hlm, -, -⟩ := hu0
      rw [hd] at hlm hc0
      have HDD := Lib.hid hd
      rw [Nat.add_zero] at hc0
      have HMEM := Lib.hid (show ∀ k (hk : k < L.length), rowQ d L[k] = false → genQ L = false from fun k hk h => genQ_bad hk (by rw [HDD.out]; exact h))
      have HB1 := Lib.hid (show Below w.heap.size w (w.alloc (.cells (grp0 d).toArray 52)) from (Below.refl _ _).alloc (Nat.le_refl _) _)
      by_cases hdr : 1 ≤ d ∧ d ≤ 5
      · obtain ⟨hd1, hd5⟩ := hdr
        have hd1i : ¬ (d : Int) < 1 := by omega
        have hd5i : ¬ (5 : Int) < (d : Int) := by omega
        have hidp : (cs5 idP).length = 5 := rfl
        clear hd e0
        go_enter Try.func21, Try.ntmps21
        go_wp2_with (first
          | ((with_reducible refine is_store 54 ?_); refine wpl_store_elem (by rfl) _ _ (by rfl) (w.heap.size + 1) idP zeroE (by rfl) (by rfl) (by rfl) (by rfl) (Held.made (by simp)) ?_; intro w2 hh2 hs2 hz2; have HH2 := Lib.hid hh2; have HS2 := Lib.hid hs2; have HZ2 := Lib.hid hz2; clear hh2 hs2 hz2))
        have HB2 := Lib.hid (show Below w.heap.size w w2 from HS2.out.below (((Below.refl _ _).alloc (Nat.le_refl _) _).alloc (by simp) _) (by omega) (by simp; omega))
        have HG2 := Lib.hid (show Held w2 w.heap.size 52 (grp0 d) from ((Held.made (w := w) (l := grp0 d) (t := 52) rfl).alloc _).sm HS2.out (by show w.heap.size ≠ _; omega))
        have hz2 : w2.heap.size = w.heap.size + 1 + 1 := by have := HZ2.out; simpa using this
        have HZ := Lib.hid hz2
        clear HZ2 HS2 hz2
        go_loopw [6, 46] (fun vb ix wr => ∃ k : Nat, k ≤ L.length ∧ ix = .int .i64 k ∧ (∀ i (hi : i < L.length), i < k → rowQ d L[i] = true) ∧ OwnE w2.heap.size wr vb ((L.take k).map fun p => elI d (natP p)) ∧ Below w2.heap.size w2 wr) (fun _ ix _ => L.length - (intOf ix).toNat)
        case atStart => exact ⟨0, Nat.zero_le _, rfl, fun i _ h => absurd h (Nat.not_lt_zero _), World.ownsRow_nil _ _ _ _, Below.refl _ _⟩
        case round =>
          obtain ⟨k, hk, rfl, hgood, hoe, hbr⟩ := hrel
          have HGD := Lib.hid hgood
          have HOE := Lib.hid hoe
          have HBR := Lib.hid hbr
          have hle := hbr.size
          have HBW := Lib.hid (HB2.out.trans (hbr.mono HB2.out.size))
          clear hgood hoe hbr
          by_cases hlt : k < L.length
          · have hki : (k : Int) < (L.length : Int) := by omega
            obtain ⟨b2, off2, c2, u, e2, hb2, hcu, hu⟩ := (HA.out.below HBW.out).at k hlt
            have hbo : b2 = b ∧ off2 = off := by
              have := (Value.slice.inj e2).1
              simpa [eq_comm] using this
            obtain ⟨rfl, rfl⟩ := hbo
            obtain ⟨p, hp⟩ : ∃ p, L[k] = p := ⟨_, rfl⟩
            have HTK := Lib.hid (map_take_snoc (fun p => elI d (natP p)) L k hlt)
            have HM := Lib.hid (HMEM.out k hlt)
            rw [hp] at hu HTK HM
            have HP := Lib.hid hp
            have HU := Lib.hid hu
            have PM := Lib.hid (isPermutation_any u p d wr hd5 hu)
            rw [permB_row hd1 hd5] at PM
            have hcg := (HG2.out.below HBR.out HG2.out.lt).at (i := 0) rfl
            have hpl := hu.len
            obtain ⟨a3, c3, rfl, -, -, -⟩ := hu
            clear hp e2
            cases hrow : rowQ d p with
            | false =>
              have HQ := Lib.hid (HM.out hrow)
              rw [hrow] at PM
              clear hrow
              go_wp2_with (go_at_call 33; refine PM.out.mono ?_; rintro e w3 ⟨rfl, hb3⟩; have HB3 := Lib.hid hb3; clear hb3)
              go_ret2
              exact ⟨HBW.out.trans (HB3.out.mono HBW.out.size), .inl ⟨HQ.out, rfl⟩⟩
            | true =>
              rw [hrow] at PM
              have HROW := Lib.hid hrow
              have hpd : p.length = d := (rowQ_iff.1 hrow).2.2.2.2
              have HSP := Lib.hid (gen_splice hd5 hrow)
              have HEL := Lib.hid (elI_len (d := d) hd5 (x := natP p) (by
                have hq := rowQ_iff.1 hrow
                refine ⟨by simp [natP, hpd], fun x hx => ?_, ?_⟩
                · obtain ⟨y, hy, rfl⟩ := List.mem_map.1 hx
                  have := hq.2.2.1 y hy
                  omega
                · unfold natP
                  rw [List.Nodup, List.pairwise_map]
                  refine hq.2.2.2.1.imp_of_mem ?_
                  intro x y hx hy hne e
                  have := hq.2.2.1 x hx
                  have := hq.2.2.1 y hy
                  omega))
              have info : (Try.prog.info? 3).map (·.size) = some 1 := by kernel_rfl
              have HPD := Lib.hid hpd
              have HTL := Lib.hid (show ((L.take k).map fun p => elI d (natP p)).length < 1000000 by rw [List.length_map, List.length_take]; omega)
              have HB1' := Lib.hid (HH2.out.below HBR.out HH2.out.lt)
              have HSR := Lib.hid (fun (w' : World) (hb : Below wr.heap.size wr w') (h0 : 0 < (p.map (Value.int .i64)).length) => (show ∃ ad, a3 = some ad ∧ ∀ j v, (p.map (Value.int .i64))[j]? = some v → w'.cell? (ad.add j) = some v from by
                obtain ⟨a8, c8, e8, _, _, h8⟩ := HU.out.below hb
                obtain ⟨rfl, -, rfl⟩ := Value.slice.inj e8
                obtain ⟨b9, o9, rfl, _, hcell⟩ := h8 (by intro e; rw [e] at h0; simp at h0)
                refine ⟨_, rfl, fun j v hj => ?_⟩
                have hjl : j < p.length := by have := (List.getElem?_eq_some_iff.1 hj).1; simpa using this
                rw [Addr.add_lit, hcell j hjl]
                simpa [List.getElem?_eq_getElem hjl] using hj))
              rw [hpd] at HU PM hcu
              have h25 : (cs5 (elI d (natP p))).length = 5 := by rw [cs5_length, HEL.out]
              clear hrow hpd
              go_wp2_with (first
                | (go_at_call 33; refine PM.out.mono ?_; rintro e w3 ⟨rfl, hb3⟩; have HB3 := Lib.hid hb3; have HH3 := Lib.hid (HB1'.out.below hb3 HB1'.out.lt); clear hb3)
                | ((with_reducible refine is_load 54 ?_); refine wpl_load_elem (by rfl) _ (by rfl) (w.heap.size + 1) idP (by rfl) (by rfl) (HH3.out.alloc _) ?_)
                | ((with_reducible refine is_load 54 ?_); refine wpl_load_elem (by rfl) _ (by rfl) (w.heap.size + 1) idP (by rfl) (by rfl) HH3.out ?_)
                | ((with_reducible refine is_load 54 ?_); refine wpl_load_elem (by rfl) _ (by rfl) w3.heap.size (elI d (natP p)) HEL.out (by rfl) HH5.out ?_)
                | ((with_reducible refine is_store 54 ?_); refine wpl_store_elem (by rfl) _ _ (by rfl) w3.heap.size idP zeroE (by rfl) (by rfl) (by rfl) (by rfl) (Held.made rfl) ?_; intro w4 hh4 hs4 hz4; have HH4 := Lib.hid hh4; have HB4 := Lib.hid (show Below wr.heap.size wr w4 from hs4.below ((HB3.out).alloc HB3.out.size _) HB3.out.size (by have := HB3.out.size; simp; omega)); clear hh4 hs4 hz4)
                | (refine wpList_copy_splice rfl _ _ _ _ rfl 3 Try.underlying28 info _ _ _ _ _ _ rfl rfl w3.heap.size 0 (cs5 idP) 54 ?h1 (p.map (Value.int .i64)) ?h2 ?h3 ?h4 ?h5 wr.heap.size wr ?h6 ?h7 ?_; (case h1 => exact HH4.out); (case h2 => rw [List.length_map, HPD.out]; show d = min d 5; omega); (case h3 => exact fun h0 => ⟨rfl, HSR.out _ HB4.out h0⟩); (case h4 => rw [List.length_map, HPD.out]; show 0 + d ≤ 5; omega); (case h5 => intro u hu; obtain ⟨y, _, rfl⟩ := List.mem_map.1 hu; rfl); (case h6 => exact HB4.out); (case h7 => exact HB3.out.size); intro w5 HG5 hb5; have HH5 := Lib.hid (show Held w5 w3.heap.size 54 (cs5 (elI d (natP p))) from by rw [← HSP.out]; exact HG5.out); have HB5 := Lib.hid hb5; have HOE5 := Lib.hid (show OwnE w2.heap.size w5 u6 ((L.take k).map fun p => elI d (natP p)) from own_sm HOE.out (S := fun _ => True) (Sm.of_below hb5) (fun _ _ => trivial)); clear HG5 hb5)
                | (at_builtin; refine wpList_appE rfl _ _ rfl w2.heap.size w5.heap.size u6 ((L.take k).map fun p => elI d (natP p)) (elI d (natP p)) rfl (World.ownsRow.alloc HOE5.out _) HEL.out rfl (by rw [foldl_zip _ _ (by simp [cs5_length, HEL.out])]; exact Held.new _ _ _) HTL.out (by have := HB5.out.size; simp; omega) ?_; intro v7 w7 ho7 hg7 hl7; have HO7 := Lib.hid ho7; have HB7 := Lib.hid (((HBR.out.trans (HB5.out.mono hle)).alloc (by have := HB5.out.size; omega) _).grown hg7 (by have := HB5.out.size; simp; omega) (fun j hj => (World.ownsRow.lt HOE.out j hj).1)); clear ho7 hg7 hl7))
              have HGD2 := Lib.hid (show ∀ i (hi : i < L.length), i < k + 1 → rowQ d L[i] = true from fun i hi hik => by
                by_cases e : i = k
                · subst e; rw [HP.out]; exact HROW.out
                · exact HGD.out i hi (by omega))
              go_roundw
              case rel => exact ⟨k + 1, hlt, by go_num, HGD2.out, by rw [HTK.out]; exact HO7.out, HB7.out⟩
              case measure => simp [intOf]; omega
          · obtain rfl : k = L.length := by omega
            have hki : ¬ (L.length : Int) < (L.length : Int) := by omega
            have hgen : genQ L = true := genQ_all (by omega) (by omega) fun p hp => by
              obtain ⟨i, hi, rfl⟩ := List.getElem_of_mem hp
              rw [HDD.out]
              exact HGD.out i hi hi
            have HGEN := Lib.hid hgen
            have hperm := (genQ_perm hgen).2.2.2.2.1
            rw [HDD.out] at hperm
            obtain ⟨gens, hge⟩ : ∃ gens, L.map natP = gens := ⟨_, rfl⟩
            have hgp : ∀ q ∈ gens, Perm1 d q := fun q hq => by
              rw [← hge] at hq
              obtain ⟨p, hp, rfl⟩ := List.mem_map.1 hq
              exact hperm p hp
            have HGP := Lib.hid hgp
            have HGE := Lib.hid hge
            have hgl : gens.length = L.length := by rw [← hge]; simp
            have hby : ElsAt wr u6 (elsI d gens) := by
              have h0 := HOE.out
              rw [List.take_length] at h0
              have e : (L.map fun p => elI d (natP p)) = elsI d gens := by rw [← hge]; simp [elsI, List.map_map, Function.comp_def]
              rw [e] at h0
              refine OwnE.els h0 (fun l hl => ?_) (by rw [elsI_length, hgl]; exact h0')
              obtain ⟨q, hq, rfl⟩ := List.mem_map.1 hl
              exact elI_len hd5 (hgp q hq)
            have HBY := Lib.hid hby
            have HLO := Lib.hid (show ∀ j, u6.ownBlock = some j → w2.heap.size ≤ j ∧ j < wr.heap.size from fun j hj => World.ownsRow.lt HOE.out j hj)
            have HG1 := Lib.hid (HG2.out.below HBR.out HG2.out.lt)
            have HH1 := Lib.hid (HH2.out.below HBR.out HH2.out.lt)
            have HF := Lib.hid (fun l k g (h : GrowI (fun p x => mulP p x) d gens k g l) => grow_few h hgp hd5)
            obtain ⟨gB, cB, rfl, hgB, -, -⟩ := hby
            rw [elsI_length] at HBY HLO
            rw [elsI_length]
            obtain ⟨m, hm⟩ : ∃ m, gens.length = m := ⟨_, rfl⟩
            have HMM := Lib.hid hm
            have hm4 : m ≤ 4 := by omega
            rw [hm] at HBY HLO
            rw [hm]
            obtain ⟨wb, rfl⟩ : ∃ x, x = wr := ⟨_, rfl⟩
            clear hgen hperm hge hgp HGD HOE HA HMEM hgl hm
            have hmm := @run_makeMap Try.prog
            have HIDE := Lib.hid (idP_el d hd5)
            have hi5 : (cs5 idP).length = 5 := rfl
            go_wp2_with (first
              | ((with_reducible refine is_load 54 ?_); refine wpl_load_elem (by rfl) _ (by rfl) (w.heap.size + 1) idP (by rfl) (by rfl) (HH1.out.alloc _) ?_)
              | ((with_reducible refine is_load 54 ?_); refine wpl_load_elem (by rfl) _ (by rfl) (w.heap.size + 1) idP (by rfl) (by rfl) HH2.out ?_)
              | (refine wpl_insB (by rfl) _ _ _ (.inl (by rfl)) wb.heap.size [] idP (mapB_new wb) (fun _ h => absurd h (by simp)) (by rw [HIDE.out]; exact elI_elt hd5 (Perm1.one d)) (by simp) (by rfl) (by rfl) (by rfl) ?_; intro W1 hm1 hs1 hz1; have HM1 := Lib.hid hm1; have HS1 := Lib.hid hs1; have HZ1 := Lib.hid hz1; have HH2 := Lib.hid ((HH1.out.alloc (.map #[] 0)).sm hs1 (by have := HH1.out.lt; show _ ≠ _; omega)); have HG2 := Lib.hid ((HG1.out.alloc (.map #[] 0)).sm hs1 (by have := HG1.out.lt; show _ ≠ _; omega)); clear hm1 hs1 hz1)
              | ((with_reducible refine is_store 49 ?_); refine wpl_store_one size_elems (by rfl) _ _ (by rfl) w.heap.size 1 (v := .slice (some ⟨W1.heap.size, 0, none⟩) 1 1) (by rfl) (by rfl) rfl rfl (by simp [grp0]) (HG2.out.alloc _) ?_; intro W2 hW2; have HW2 := Lib.hid hW2; clear hW2))
            have HCL := Lib.hid (show ClI d gens (wb.heap.size + 1) w.heap.size wb.heap.size W2 (.slice (some ⟨gB, 0, none⟩) m cB) (.slice (some ⟨W1.heap.size, 0, none⟩) 1 1) [oneP d] from by
              rw [HW2.out]
              exact ClI.start hd5 HG1.out HBY.out (fun k hk => by have := (HLO.out k hk).1; have := HZ.out; omega) (by have := HM1.out; rwa [HIDE.out] at this) HS1.out HZ1.out (by rw [← HIDE.out]; exact foldl_zip _ _ (by simp [hi5])) rfl rfl)
            have HBS := Lib.hid (show Below w.heap.size w W2 from by
              have hzw := HBW.out.size
              have := HB2.out.size
              have hz := HZ.out
              have hzb := HBR.out.size
              rw [HW2.out]
              exact (Sm.put w.heap.size 1 _).below ((HS1.out.below (HBW.out.alloc HBW.out.size _) (by omega) (by have := HBW.out.size; simp; omega)).alloc (by rw [HZ1.out]; simp; omega) _) (Nat.le_refl _) (by simp [HZ1.out]; omega))
            have HGW := Lib.hid (grow_start (fun p x => mulP p x) d gens)
            clear HM1 HS1 HZ1 HW2 HH2 HG2 HH1 HG1 hmm hi5
            go_loopw [11] (fun ix wr => ∃ (k : Nat) (l : List (List Nat)) (vE : Value), ix = .int .i64 k ∧ l.length ≤ 24 ∧ ClI d gens (wb.heap.size + 1) w.heap.size wb.heap.size wr (.slice (some ⟨gB, 0, none⟩) m cB) vE l ∧ GrowI (fun p x => mulP p x) d gens k 0 l ∧ Below w.heap.size w wr) (fun ix _ => 25 - (intOf ix).toNat)
            case atStart => exact ⟨0, _, _, rfl, by simp, HCL.out, HGW.out, HBS.out⟩
            case round =>
              obtain ⟨k, l, vE, rfl, hl24, hcl, hgw, hbw⟩ := hrel
              have HC := Lib.hid hcl
              have HGO := Lib.hid hgw
              have HBV := Lib.hid hbw
              have hkl := hgw.le
              have HL5 := Lib.hid (show ∀ x ∈ elsI d l, x.length = 5 from fun x hx => by
                obtain ⟨y, hy, rfl⟩ := List.mem_map.1 hx
                exact elI_len hd5 (gen_perm HGP.out (hgw.gen y hy)))
              have hlp : 0 < l.length := by have := grow_one hgw; exact List.length_pos_of_mem this
              obtain ⟨gE, cE, rfl, hgE, hcE⟩ := hcl.els.cells HL5.out 0 (by rw [elsI_length]; exact hlp)
              rw [elsI_length] at HC
              have hc1 := HC.out.box.at (i := 1) rfl
              obtain ⟨n, hn⟩ : ∃ n, l.length = n := ⟨_, rfl⟩
              have HN := Lib.hid hn
              rw [hn] at hc1 hkl hl24 HC
              clear hcl hgw hbw hcE hn hlp
              by_cases hlt : k < n
              · have hki : (k : Int) < (n : Int) := by omega
                go_wp2_with fail
                obtain ⟨wc, rfl⟩ : ∃ x, x = wr := ⟨_, rfl⟩
                go_loopw [85] (fun ix wr => ∃ (g : Nat) (l : List (List Nat)) (vE : Value), ix = .int .i64 g ∧ g ≤ m ∧ k < l.length ∧ ClI d gens (wb.heap.size + 1) w.heap.size wb.heap.size wr (.slice (some ⟨gB, 0, none⟩) m cB) vE l ∧ GrowI (fun p x => mulP p x) d gens k g l ∧ Below w.heap.size w wr) (fun ix _ => m - (intOf ix).toNat)
                case atStart => exact ⟨0, l, _, rfl, Nat.zero_le _, by rw [HN.out]; exact hlt, HC.out, HGO.out, HBV.out⟩
                case round =>
                  clear HN HC HGO HBV HL5 hgE hc1
                  obtain ⟨g, l, vE, rfl, hgm, hkl2, hcl, hgw, hbw⟩ := hrel
                  have HC := Lib.hid hcl
                  have HGO := Lib.hid hgw
                  have HBV := Lib.hid hbw
                  have HL5 := Lib.hid (show ∀ x ∈ elsI d l, x.length = 5 from fun x hx => by
                    obtain ⟨y, hy, rfl⟩ := List.mem_map.1 hx
                    exact elI_len hd5 (gen_perm HGP.out (hgw.gen y hy)))
                  obtain ⟨gE, cE, rfl, hgE, hcE⟩ := hcl.els.cells HL5.out 0 (by rw [elsI_length]; omega)
                  have HEA := Lib.hid (OwnE.els hcl.els HL5.out (by rw [elsI_length]; omega))
                  rw [elsI_length] at HC HEA
                  have hc1 := HC.out.box.at (i := 1) rfl
                  obtain ⟨n, hn⟩ : ∃ n, l.length = n := ⟨_, rfl⟩
                  have HN := Lib.hid hn
                  rw [hn] at hc1 HC HEA hkl2
                  clear hcl hgw hbw hcE
                  by_cases hgl : g < m
                  · have hgi : (g : Int) < (m : Int) := by omega
                    obtain ⟨x, hx⟩ : ∃ x, l[k]? = some x := ⟨_, List.getElem?_eq_getElem (by rw [hn]; exact hkl2)⟩
                    obtain ⟨p, hp⟩ : ∃ p, gens[g]? = some p := ⟨_, List.getElem?_eq_getElem (by rw [HMM.out]; exact hgl)⟩
                    have hpx : Perm1 d x := gen_perm HGP.out (HGO.out.gen x (List.mem_of_getElem? hx))
                    have hpp : Perm1 d p := HGP.out p (List.mem_of_getElem? hp)
                    have HXR := Lib.hid (HEA.out.range (elsI_get hx) (elI_len hd5 hpx))
                    have HPR := Lib.hid (HC.out.gen.range (elsI_get hp) (elI_len hd5 hpp))
                    have HP5 := Lib.hid (elI_len hd5 hpp)
                    have HX5 := Lib.hid (elI_len hd5 hpx)
                    have hpz : Perm1 d (mulP p x) := Perm1.mul hpp hpx
                    have HAF := Lib.hid (fun w' => after_any (elI d p) (elI d x) w' (elI_elt hd5 hpp) (elI_elt hd5 hpx))
                    rw [afterE_mul hd5 hpp hpx] at HAF
                    have HZE := Lib.hid (elI_elt hd5 hpz)
                    have HKN := Lib.hid (fun hin => grow_known HGO.out hx hp (f := fun p x => mulP p x) hin)
                    have HNW := Lib.hid (fun hin => grow_new HGO.out hx hp (f := fun p x => mulP p x) hin (gen_left (List.mem_of_getElem? hp) (HGO.out.gen x (List.mem_of_getElem? hx))))
                    have HMI := Lib.hid (mem_elsI (d := d) (E := l) (fun y hy => gen_perm HGP.out (HGO.out.gen y hy)) hpz)
                    have HLE := Lib.hid (show ∀ y ∈ elsI d l, Elt y from fun y hy => by
                      obtain ⟨q, hq, rfl⟩ := List.mem_map.1 hy
                      exact elI_elt hd5 (gen_perm HGP.out (HGO.out.gen q hq)))
                    obtain ⟨P, hP⟩ : ∃ P, elI d p = P := ⟨_, rfl⟩
                    obtain ⟨X, hX⟩ : ∃ X, elI d x = X := ⟨_, rfl⟩
                    obtain ⟨z, hzd⟩ : ∃ z, mulP p x = z := ⟨_, rfl⟩
                    rw [hzd] at HKN
                    rw [hzd] at HNW
                    rw [hzd] at HAF HZE HMI
                    obtain ⟨Z, hZ⟩ : ∃ Z, elI d z = Z := ⟨_, rfl⟩
                    have HZZ := Lib.hid hZ
                    rw [hP] at HPR HP5 HAF
                    rw [hX] at HXR HX5 HAF
                    rw [hZ] at HAF HZE HMI
                    have hgn : (0 : Int) ≤ (g : Int) := by omega
                    have hkn : (0 : Int) ≤ (k : Int) := by omega
                    have hkc : (k : Int) < (n : Int) := by omega
                    clear hpx hpp hpz hx hp hP hX hzd hZ hn
                    go_upto_region 25 with (first
                      | ((with_reducible refine is_load 54 ?_); refine wpList_load_mid (by rfl) 54 _ (by rfl) gB (g * 5) (by rfl) (cs5 P) _ HPR.out Try.underlying54 rfl (infoLl HP5.out) ?_)
                      | ((with_reducible refine is_store 54 ?_); refine wpl_store_elem (by rfl) _ _ (by rfl) wr.heap.size P zeroE HP5.out (by rfl) (by rfl) (by rfl) (Held.made rfl) ?_; intro W13 hh13 hs13 hz13; have HH13 := Lib.hid hh13; have HB13 := Lib.hid (show Below wr.heap.size wr W13 from hs13.below ((Below.refl _ _).alloc (Nat.le_refl _) _) (Nat.le_refl _) (by simp)); have hz13' : W13.heap.size = wr.heap.size + 1 := (by have := hz13; simpa using this); have HZ13 := Lib.hid hz13'; clear hh13 hs13 hz13 hz13'))
                    have HC13 := Lib.hid (HC.out.below HB13.out)
                    have hcW : W13.cell? ⟨w.heap.size, 1, none⟩ = some (.slice (some ⟨gE, 0, none⟩) n cE) := HC13.out.box.at (i := 1) rfl
                    have HFX := Lib.hid (show W13.rangeAt gE (k * 5) (cs5 X) from fun j v hv => (HB13.out.cell (p := ⟨gE, k * 5 + j, none⟩) hgE).trans (HXR.out j v hv))
                    have HZ5 := Lib.hid HZE.out.len
                    have hgE13 : gE < W13.heap.size := Nat.lt_of_lt_of_le hgE HB13.out.size
                    obtain ⟨p0, p1, p2, p3, p4, rfl⟩ := five HP5.out
                    obtain ⟨x0, x1, x2, x3, x4, rfl⟩ := five HX5.out
                    obtain ⟨z0, z1, z2, z3, z4, rfl⟩ := five HZ5.out
                    have HAF := Lib.hid (show ∀ w', Calls Try.prog 34 #[.agg #[.int .i64 p0, .int .i64 p1, .int .i64 p2, .int .i64 p3, .int .i64 p4], .agg #[.int .i64 x0, .int .i64 x1, .int .i64 x2, .int .i64 x3, .int .i64 x4]] w' fun r w2 => r = .returned (.agg #[.int .i64 z0, .int .i64 z1, .int .i64 z2, .int .i64 z3, .int .i64 z4]) ∧ Below w'.heap.size w' w2 from HAF.out)
                    have hp0 : W13.cell? ⟨wr.heap.size, 0, none⟩ = some (.int .i64 p0) := HH13.out.at (i := 0) rfl
                    have hq0 : ∀ o, (W13.alloc o).cell? ⟨wr.heap.size, 0, none⟩ = some (.int .i64 p0) := fun o => (HH13.out.alloc o).at (i := 0) rfl
                    have hx0 : W13.cell? ⟨gE, k * 5, none⟩ = some (.int .i64 x0) := HFX.out 0 _ rfl
                    have hy0 : ∀ o, (W13.alloc o).cell? ⟨gE, k * 5, none⟩ = some (.int .i64 x0) := fun o => (((Below.refl _ W13).alloc (Nat.le_refl _) o).cell (p := ⟨gE, k * 5, none⟩) hgE13).trans hx0
                    have hp1 : W13.cell? ⟨wr.heap.size, 1, none⟩ = some (.int .i64 p1) := HH13.out.at (i := 1) rfl
                    have hq1 : ∀ o, (W13.alloc o).cell? ⟨wr.heap.size, 1, none⟩ = some (.int .i64 p1) := fun o => (HH13.out.alloc o).at (i := 1) rfl
                    have hx1 : W13.cell? ⟨gE, k * 5 + 1, none⟩ = some (.int .i64 x1) := HFX.out 1 _ rfl
                    have hy1 : ∀ o, (W13.alloc o).cell? ⟨gE, k * 5 + 1, none⟩ = some (.int .i64 x1) := fun o => (((Below.refl _ W13).alloc (Nat.le_refl _) o).cell (p := ⟨gE, k * 5 + 1, none⟩) hgE13).trans hx1
                    have hp2 : W13.cell? ⟨wr.heap.size, 2, none⟩ = some (.int .i64 p2) := HH13.out.at (i := 2) rfl
                    have hq2 : ∀ o, (W13.alloc o).cell? ⟨wr.heap.size, 2, none⟩ = some (.int .i64 p2) := fun o => (HH13.out.alloc o).at (i := 2) rfl
                    have hx2 : W13.cell? ⟨gE, k * 5 + 2, none⟩ = some (.int .i64 x2) := HFX.out 2 _ rfl
                    have hy2 : ∀ o, (W13.alloc o).cell? ⟨gE, k * 5 + 2, none⟩ = some (.int .i64 x2) := fun o => (((Below.refl _ W13).alloc (Nat.le_refl _) o).cell (p := ⟨gE, k * 5 + 2, none⟩) hgE13).trans hx2
                    have hp3 : W13.cell? ⟨wr.heap.size, 3, none⟩ = some (.int .i64 p3) := HH13.out.at (i := 3) rfl
                    have hq3 : ∀ o, (W13.alloc o).cell? ⟨wr.heap.size, 3, none⟩ = some (.int .i64 p3) := fun o => (HH13.out.alloc o).at (i := 3) rfl
                    have hx3 : W13.cell? ⟨gE, k * 5 + 3, none⟩ = some (.int .i64 x3) := HFX.out 3 _ rfl
                    have hy3 : ∀ o, (W13.alloc o).cell? ⟨gE, k * 5 + 3, none⟩ = some (.int .i64 x3) := fun o => (((Below.refl _ W13).alloc (Nat.le_refl _) o).cell (p := ⟨gE, k * 5 + 3, none⟩) hgE13).trans hx3
                    have hp4 : W13.cell? ⟨wr.heap.size, 4, none⟩ = some (.int .i64 p4) := HH13.out.at (i := 4) rfl
                    have hq4 : ∀ o, (W13.alloc o).cell? ⟨wr.heap.size, 4, none⟩ = some (.int .i64 p4) := fun o => (HH13.out.alloc o).at (i := 4) rfl
                    have hx4 : W13.cell? ⟨gE, k * 5 + 4, none⟩ = some (.int .i64 x4) := HFX.out 4 _ rfl
                    have hy4 : ∀ o, (W13.alloc o).cell? ⟨gE, k * 5 + 4, none⟩ = some (.int .i64 x4) := fun o => (((Below.refl _ W13).alloc (Nat.le_refl _) o).cell (p := ⟨gE, k * 5 + 4, none⟩) hgE13).trans hx4
                    have hcA : ∀ o, (W13.alloc o).cell? ⟨w.heap.size, 1, none⟩ = some (.slice (some ⟨gE, 0, none⟩) n cE) := fun o => (HC13.out.box.alloc o).at (i := 1) rfl
                    dsimp only [Act.put]
                    go_cut [14] from 89 to 97 (fun v wq => Box5 W13 [z0, z1, z2, z3, z4] v wq)
                    case first =>
                      go_region_law (refine step_call (by rfl) 34 #[.agg #[.int .i64 p0, .int .i64 p1, .int .i64 p2, .int .i64 p3, .int .i64 p4], .agg #[.int .i64 x0, .int .i64 x1, .int .i64 x2, .int .i64 x3, .int .i64 x4]] ?hr (HAF.out _) ?_; (case hr => go_simp); rintro e w6 ⟨rfl, hb6⟩; refine ⟨_, rfl, ?_⟩; try (have hh6 : Held w6 W13.heap.size 54 (cs5 zeroE) := (Held.made (w := W13.drew) (l := cs5 zeroE) (t := 54) rfl).below hb6 (by simp); have hs0 : w6.cell? ⟨W13.heap.size, 0, none⟩ = some (.int .i64 0) := hh6.at (i := 0) rfl; have hf0 := hh6.free 0; have hs1 : w6.cell? ⟨W13.heap.size, 1, none⟩ = some (.int .i64 0) := hh6.at (i := 1) rfl; have hf1 := hh6.free 1; have hs2 : w6.cell? ⟨W13.heap.size, 2, none⟩ = some (.int .i64 0) := hh6.at (i := 2) rfl; have hf2 := hh6.free 2; have hs3 : w6.cell? ⟨W13.heap.size, 3, none⟩ = some (.int .i64 0) := hh6.at (i := 3) rfl; have hf3 := hh6.free 3; have hs4 : w6.cell? ⟨W13.heap.size, 4, none⟩ = some (.int .i64 0) := hh6.at (i := 4) rfl; have hf4 := hh6.free 4))
                      all_goals (go_wp2_with fail; go_meet)
                      all_goals (first | (have hhx := hh6; exact box5_a hb6 hhx) | exact box5_b hb6)
                    case rest =>
                      obtain ⟨b14, rfl, hh14, hb14⟩ := hcut
                      clear hp0 hp1 hp2 hp3 hp4 hq0 hq1 hq2 hq3 hq4 hx0 hx1 hx2 hx3 hx4 hy0 hy1 hy2 hy3 hy4 hcA hcW hc1 HFX HXR HPR HAF
                      have HH14 := Lib.hid hh14
                      have HCq := Lib.hid (HC13.out.below hb14)
                      have HBq := Lib.hid (show Below w.heap.size w wc from HBV.out.trans ((HB13.out.trans (hb14.mono HB13.out.size)).mono HBV.out.size))
                      obtain ⟨Z, hZ⟩ : ∃ Z, [z0, z1, z2, z3, z4] = Z := ⟨_, rfl⟩
                      rw [hZ] at HH14 HZE HMI HZ5 HZZ
                      have hlk := HCq.out.map.look HLE.out HZE.out
                      clear hZ hh14 hb14
                      by_cases hin : z ∈ l
                      · rw [decide_eq_true (HMI.out.2 hin)] at hlk
                        have HGN := Lib.hid (HKN.out hin)
                        clear hin
                        go_wp2_with (first
                          | ((with_reducible refine is_load 54 ?_); refine wpl_load_elem (by rfl) _ (by rfl) b14 Z HZ5.out (by rfl) HH14.out ?_))
                        go_roundw
                        case rel => exact ⟨g + 1, l, _, by go_num, hgl, by rw [HN.out]; exact hkl2, HCq.out, HGN.out, HBq.out⟩
                        case measure => simp [intOf]; omega
                      · rw [decide_eq_false (fun h => hin (HMI.out.1 h))] at hlk
                        have HGN := Lib.hid (HNW.out hin)
                        have HIN := Lib.hid (show Z ∉ elsI d l from fun h => hin (HMI.out.1 h))
                        clear hin
                        go_upto_region 28 with (first
                          | ((with_reducible refine is_load 54 ?_); refine wpl_load_elem (by rfl) _ (by rfl) b14 Z HZ5.out (by rfl) HH14.out ?_)
                          | (refine wpl_insB (by rfl) _ _ _ (.inr (by rfl)) wb.heap.size (elsI d l) Z HCq.out.map HLE.out HZE.out HIN.out (by rfl) (by rfl) (by rfl) ?_; intro W15 hm15 hs15 hz15; have HM15 := Lib.hid hm15; have HS15 := Lib.hid hs15; have HZ15 := Lib.hid hz15; clear hm15 hs15 hz15))
                        obtain ⟨hbx, hgn, hel⟩ := HCq.out.known HS15.out
                        have HBX := Lib.hid hbx
                        have HELS := Lib.hid hel
                        have hc15 : W15.cell? ⟨w.heap.size, 1, none⟩ = some (.slice (some ⟨gE, 0, none⟩) n cE) := hbx.at (i := 1) rfl
                        have hca15 : ∀ o, (W15.alloc o).cell? ⟨w.heap.size, 1, none⟩ = some (.slice (some ⟨gE, 0, none⟩) n cE) := fun o => (HBX.out.alloc o).at (i := 1) rfl
                        have HH15 := Lib.hid (HH14.out.sm HS15.out (held_ne_map HH14.out HCq.out.map))
                        have HNE := Lib.hid (show some w.heap.size ≠ (Value.slice (some ⟨gE, 0, none⟩) n cE).ownBlock from fun e => by
                          have := (World.ownsRow.lt hel w.heap.size e.symm).1
                          have := HBW.out.size
                          omega)
                        have HSZ := Lib.hid (show wb.heap.size + 1 ≤ W15.heap.size from by rw [HZ15.out]; exact HCq.out.map.lt)
                        have HLN := Lib.hid (show (elsI d l).length < 1000000 from by rw [elsI_length]; have := HF.out l k g HGO.out; omega)
                        have HB15 := Lib.hid (HS15.out.below HBq.out HBW.out.size HBq.out.size)
                        obtain ⟨z0, z1, z2, z3, z4, rfl⟩ := five HZ5.out
                        have hz0 : W15.cell? ⟨b14, 0, none⟩ = some (.int .i64 z0) := HH15.out.at (i := 0) rfl
                        have hz1 : W15.cell? ⟨b14, 1, none⟩ = some (.int .i64 z1) := HH15.out.at (i := 1) rfl
                        have hz2 : W15.cell? ⟨b14, 2, none⟩ = some (.int .i64 z2) := HH15.out.at (i := 2) rfl
                        have hz3 : W15.cell? ⟨b14, 3, none⟩ = some (.int .i64 z3) := HH15.out.at (i := 3) rfl
                        have hz4 : W15.cell? ⟨b14, 4, none⟩ = some (.int .i64 z4) := HH15.out.at (i := 4) rfl
                        clear hbx hgn hel hlk
                        dsimp only [Act.put]
                        go_region_law (refine step_appE (by rfl) (.tmp 108) (.tmp 110) (by rfl) (wb.heap.size + 1) W15.heap.size (.slice (some ⟨gE, 0, none⟩) n cE) (elsI d l) [z0, z1, z2, z3, z4] (by rfl) (World.ownsRow.drew (World.ownsRow.alloc HELS.out _)) rfl (by rfl) (Held.drew (Held.made (l := cs5 [z0, z1, z2, z3, z4]) rfl)) HLN.out (by have := HSZ.out; simp; omega) ?_; intro v9 w9 ho9 hg9 hl9; have HO9 := Lib.hid ho9; have HG9 := Lib.hid hg9; have HH9 := Lib.hid ((HBX.out.alloc (.cells #[.int .i64 z0, .int .i64 z1, .int .i64 z2, .int .i64 z3, .int .i64 z4] 54)).drew.grown hg9 HNE.out); have hf9 := HH9.out.free 1; have hc9 := HH9.out.at (i := 1) rfl; obtain ⟨a9, n9, c9, rfl⟩ := own_formE ho9; clear ho9 hg9 hl9)
                        all_goals
                          have HCN := Lib.hid (show ClI d gens (wb.heap.size + 1) w.heap.size wb.heap.size (w9.setCell ⟨w.heap.size, 1, none⟩ (.slice a9 n9 c9)) (.slice (some ⟨gB, 0, none⟩) m cB) (.slice a9 n9 c9) (l ++ [z]) from HCq.out.next HS15.out (by rw [elsI_snoc, HZZ.out]; exact HM15.out) ((Below.refl _ _).alloc (Nat.le_refl _) (.cells #[.int .i64 z0, .int .i64 z1, .int .i64 z2, .int .i64 z3, .int .i64 z4] 54)).drew (by rw [elsI_snoc, HZZ.out]; exact HO9.out) HG9.out)
                          have HBN := Lib.hid (show Below w.heap.size w (w9.setCell ⟨w.heap.size, 1, none⟩ (.slice a9 n9 c9)) from ((HB15.out.alloc HB15.out.size _).drew.grown HG9.out (by have := HB15.out.size; simp; omega) (fun j hj => by have := (World.ownsRow.lt HELS.out j hj).1; have := HBW.out.size; omega)).setCell (Nat.le_refl _) _)
                          clear HG9 HO9 HH9 hf9 hc9
                          go_wp2
                          go_roundw
                          case rel => exact ⟨g + 1, l ++ [z], _, by go_num, hgl, by rw [List.length_append, HN.out]; omega, HCN.out, HGN.out, HBN.out⟩
                          case measure => simp [intOf]; omega
                  · obtain rfl : g = m := by omega
                    have hgi : ¬ (g : Int) < (g : Int) := by omega
                    by_cases h24 : 24 < n
                    · have h24i : (24 : Int) < (n : Int) := by omega
                      have HOV := Lib.hid (show Over (L.headD []).length (L.map natP) from by
                        rw [HDD.out, HGE.out]
                        exact Over.of_grow HGO.out (by rw [HN.out]; exact h24))
                      go_wp2_with fail
                      go_ret2
                      exact ⟨HBV.out, .inr ⟨HGEN.out, .inl ⟨HOV.out, rfl⟩⟩⟩
                    · have h24i : ¬ (24 : Int) < (n : Int) := by omega
                      have HGK := Lib.hid (grow_next HGO.out (by rw [HN.out]; exact hkl2) (by rw [HMM.out]; exact Nat.le_refl _))
                      go_wp2_with fail
                      go_roundw
                      case rel => exact ⟨k + 1, l, _, by go_num, by rw [HN.out]; omega, HC.out, HGK.out, HBV.out⟩
                      case measure => simp [intOf]; omega
              · obtain rfl : k = n := by omega
                have hki : ¬ (k : Int) < (k : Int) := by omega
                obtain ⟨E, hE⟩ : ∃ E, sortP l = E := ⟨_, rfl⟩
                have HLP := Lib.hid (show ∀ x ∈ l, Perm1 d x from fun x hx => gen_perm HGP.out (HGO.out.gen x hx))
                have HIG := Lib.hid (show IsG d gens E from by
                  rw [← hE]
                  exact IsG.of_left (g := 0) (by rw [HN.out]; exact HGO.out) (by rw [HN.out]; exact hl24))
                have HSE := Lib.hid (fun R hR hs => (sort_els (R := R) HLP.out HGO.out.nodup hR hs).trans (congrArg (elsI d) hE))
                have HEL := Lib.hid (show E.length = k from by rw [← hE, (sortP_perm HGO.out.nodup).length_eq]; exact HN.out)
                have HSP := Lib.hid (sortP_any (show OwnE (wb.heap.size + 1) wr (.slice (some ⟨gE, 0, none⟩) (elsI d l).length cE) (elsI d l) from by rw [elsI_length, HN.out]; exact HC.out.els) HL5.out (by rw [elsI_length]; exact List.length_pos_of_mem (grow_one HGO.out)) (by rw [elsI_length, HN.out]; omega))
                rw [elsI_length, HN.out] at HSP
                have HGEL := Lib.hid (show wb.heap.size + 1 ≤ gE from (World.ownsRow.lt HC.out.els gE rfl).1)
                have HNE := Lib.hid (show w.heap.size ≠ gE from by have := HGEL.out; have := HBW.out.size; omega)
                have HGR := Lib.hid (HIG.out.grp HGP.out)
                have hmm := @run_makeMap Try.prog
                clear hE hgE HB1 HB2 HH2
                go_upto_region 34 with (first
                  | (go_at_call 35; refine HSP.out.mono ?_; rintro e w1 ⟨rfl, R, hperm, hsrt, hat, hsm⟩; have HAT := Lib.hid (show ElsAt w1 (.slice (some ⟨gE, 0, none⟩) k cE) (elsI d E) from (by rw [elsI_length, HN.out] at hat; rw [← HSE.out R hperm hsrt]; exact hat)); have HBX1 := Lib.hid (HC.out.box.sm hsm HNE.out); have HBS1 := Lib.hid (hsm.below HBV.out (by have := HGEL.out; have := HBW.out.size; omega) HBV.out.size); clear hperm hsrt hat hsm)
                  | ((with_reducible refine is_store 50 ?_); refine wpl_store_one size_map (by rfl) _ _ (by rfl) w.heap.size 2 (v := .map (some w1.heap.size)) (by rfl) (by rfl) rfl rfl (by simp) (HBX1.out.alloc _) ?_; intro W3 hW3; have HW3 := Lib.hid hW3; clear hW3))
                have HIX := Lib.hid (show IxI d E w.heap.size gE w1.heap.size k cE W3 0 from by
                  rw [HW3.out]
                  exact IxI.start HBX1.out HAT.out (Ne.symm HNE.out))
                have HB3 := Lib.hid (show Below w.heap.size w W3 from by
                  rw [HW3.out]
                  exact (HBS1.out.alloc HBS1.out.size _).setCell (p := ⟨w.heap.size, 2, none⟩) (Nat.le_refl _) _)
                have hc3 : W3.cell? ⟨w.heap.size, 1, none⟩ = some (.slice (some ⟨gE, 0, none⟩) k cE) := HIX.out.box.at (i := 1) rfl
                clear HW3 HBX1 HAT hmm hc1
                have HLBM := Lib.hid HBS1.out.size
                obtain ⟨bM, hbM⟩ : ∃ x, w1.heap.size = x := ⟨_, rfl⟩
                rw [hbM] at HIX HLBM
                clear hbM
                go_wp2_with fail
                go_loopw [135] (fun ix wr => ∃ i : Nat, ix = .int .i64 i ∧ i ≤ k ∧ IxI d E w.heap.size gE bM k cE wr i ∧ Below w.heap.size w wr) (fun ix _ => k - (intOf ix).toNat)
                case atStart => exact ⟨0, rfl, Nat.zero_le _, HIX.out, HB3.out⟩
                case round =>
                  obtain ⟨i, rfl, hik, hix, hbv⟩ := hrel
                  have HI := Lib.hid hix
                  have HBI := Lib.hid hbv
                  have hgs := hix.ne.2.2.2
                  clear hix hbv
                  by_cases hlt4 : i < k
                  · have hii : (i : Int) < (k : Int) := by omega
                    have hin0 : (0 : Int) ≤ (i : Int) := by omega
                    obtain ⟨x, hx⟩ : ∃ x, E[i]? = some x := ⟨_, List.getElem?_eq_getElem (by rw [HEL.out]; exact hlt4)⟩
                    have HXX := Lib.hid hx
                    have HFA := Lib.hid (ix_facts HGR.out hd5 hx)
                    have HXR := Lib.hid (HI.out.els.range (elsI_get hx) HFA.out.2.2.1.len)
                    obtain ⟨X, hX⟩ : ∃ X, elI d x = X := ⟨_, rfl⟩
                    have HXQ := Lib.hid hX
                    rw [hX] at HFA HXR
                    have HX5 := Lib.hid HFA.out.2.2.1.len
                    clear hx hX
                    go_upto_region 37 with (first
                      | ((with_reducible refine is_load 54 ?_); refine wpList_load_mid (by rfl) 54 _ (by rfl) gE (i * 5) (by rfl) (cs5 X) _ HXR.out Try.underlying54 rfl (infoLl HX5.out) ?_)
                      | ((with_reducible refine is_store 54 ?_); refine wpl_store_elem (by rfl) _ _ (by rfl) wr.heap.size X zeroE HX5.out (by rfl) (by rfl) (by rfl) (Held.made rfl) ?_; intro W16 hh16 hs16 hz16; have HH16 := Lib.hid hh16; have HB16 := Lib.hid (show Below wr.heap.size wr W16 from hs16.below ((Below.refl _ _).alloc (Nat.le_refl _) _) (Nat.le_refl _) (by simp)); clear hh16 hs16 hz16))
                    have HI16 := Lib.hid (HI.out.below HB16.out)
                    have HID := Lib.hid (HI16.out.below (Below.refl _ _).drew)
                    have HBD := Lib.hid ((HBI.out.trans (HB16.out.mono HBI.out.size)).drew)
                    have hm16 : W16.cell? ⟨w.heap.size, 2, none⟩ = some (.map (some bM)) := HI16.out.box.at (i := 2) rfl
                    obtain ⟨x0, x1, x2, x3, x4, rfl⟩ := five HX5.out
                    have hx0 : W16.cell? ⟨wr.heap.size, 0, none⟩ = some (.int .i64 x0) := HH16.out.at (i := 0) rfl
                    have hx1 : W16.cell? ⟨wr.heap.size, 1, none⟩ = some (.int .i64 x1) := HH16.out.at (i := 1) rfl
                    have hx2 : W16.cell? ⟨wr.heap.size, 2, none⟩ = some (.int .i64 x2) := HH16.out.at (i := 2) rfl
                    have hx3 : W16.cell? ⟨wr.heap.size, 3, none⟩ = some (.int .i64 x3) := HH16.out.at (i := 3) rfl
                    have hx4 : W16.cell? ⟨wr.heap.size, 4, none⟩ = some (.int .i64 x4) := HH16.out.at (i := 4) rfl
                    dsimp only [Act.put]
                    go_still_tail 6, (by kernel_rfl)
                    clear hx0 hx1 hx2 hx3 hx4 hm16
                    go_wp2_with (first
                      | (refine wpl_updE (by rfl) _ _ _ (by rfl) bM (elsI d (E.take i)) [x0, x1, x2, x3, x4] HID.out.map HFA.out.1 HFA.out.2.1 HFA.out.2.2.1 HFA.out.2.2.2.1 (by rfl) (by rfl) (by rw [HFA.out.2.2.2.2]; rfl) ?_; intro W17 hm17 hs17 hz17; have HM17 := Lib.hid hm17; have HS17 := Lib.hid hs17; clear hm17 hs17 hz17))
                    have HN17 := Lib.hid (HID.out.next HXX.out (Ne.symm HID.out.ne.1) (by rw [HXQ.out]; exact HM17.out) HS17.out)
                    go_roundw
                    case rel => exact ⟨i + 1, by go_num, hlt4, HN17.out, HS17.out.below HBD.out HLBM.out HBD.out.size⟩
                    case measure => simp [intOf]; omega
                  · obtain rfl : i = k := by omega
                    have hii : ¬ (i : Int) < (i : Int) := by omega
                    have HSO := Lib.hid (gsort_any w.heap.size (.slice (some ⟨gE, 0, none⟩) i cE) bM wr HGR.out hd5 HIG.out.few (IxI.done (by rw [HEL.out]; exact HI.out)))
                    go_wp2_with (first
                      | (go_at_call 37; refine HSO.out.mono ?_; rintro e w5 ⟨rfl, S5, vC, vO, vB, hs5, hm5⟩; have HCH := Lib.hid (choose_any w.heap.size _ _ w5 HGR.out hd5 HIG.out.few hs5); have HB5 := Lib.hid (hm5.below HBI.out (Nat.le_refl _) HBI.out.size); clear hs5 hm5)
                      | (go_at_call 38; refine HCH.out.mono ?_; rintro e w6 ⟨rfl, hs6, hm6⟩; have HS6 := Lib.hid hs6; have HB6 := Lib.hid (hm6.below HB5.out (Nat.le_refl _) HB5.out.size); clear hs6 hm6))
                    go_ret2
                    exact ⟨HB6.out, .inr ⟨HGEN.out, .inr ⟨E, w.heap.size, by rw [HDD.out, HGE.out]; exact HIG.out, rfl, by rw [HDD.out]; exact ⟨_, _, _, _, _, _, _, HS6.out⟩⟩⟩⟩
      · have HQ := Lib.hid (show genQ L = false from HMEM.out 0 h0 (rowQ_no fun ⟨x1, x2, _⟩ => hdr ⟨x1, x2⟩))
        clear hd e0
        by_cases hd1 : d < 1
        · have hd1i : (d : Int) < 1 := by omega
          go_enter Try.func21, Try.ntmps21
          go_wp2
          go_ret2
          exact ⟨HB1.out, .inl ⟨HQ.out, rfl⟩⟩
        · have hd1i : ¬ (d : Int) < 1 := by omega
          have hd5i : (5 : Int) < (d : Int) := by omega
          go_enter Try.func21, Try.ntmps21
          go_wp2
          go_ret2
          exact ⟨HB1.out, .inl ⟨HQ.out, rfl⟩⟩
end Go.Proofs.Ytdackakjcnnofaa
